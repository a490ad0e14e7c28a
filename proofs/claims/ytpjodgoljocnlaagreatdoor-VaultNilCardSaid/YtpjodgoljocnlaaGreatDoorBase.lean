/- What the walks share: how Go's data lie in memory, and what a call leaves as it was. No condition. -/
import Derived.Test.YtpjodgoljocnlaaGreatDoorProg
import Derived.WalkKit
import Derived.WalkSpells
import Derived.WalkLawsBesides
import Derived.Handy
import Derived.Lib.Hide
import Derived.Maps.AppendAt
import Derived.Deep.AppendLies
import Derived.Deep.Draws
import Derived.Deep.LoopGhost
import Derived.Deep.DeepCutAuto
import Derived.Deep.QuietTactic
import Derived.BigQuiet
namespace Go.Proofs.YtpjodgoljocnlaaGreatDoor
open Go Go.RowKit

/-! ### worlds -/
/-- w' has all that w had, as it was. -/
abbrev Ext (w w' : World) : Prop := Below w.heap.size w w'

theorem Ext.rfl' {w : World} : Ext w w := Below.refl _ _
theorem Ext.cell {w w' : World} (h : Ext w w') {a : Addr} {v : Value} (hc : w.cell? a = some v) : w'.cell? a = some v :=
  (Below.cell h (World.block_lt_of_cell? w a hc)).trans hc
theorem Ext.trans {a b c : World} (h : Ext a b) (k : Ext b c) : Ext a c := Below.trans h (k.mono h.size)
theorem Ext.alloc {a w : World} (h : Ext a w) (o : Obj) : Ext a (w.alloc o) := Below.alloc h h.size o
theorem Ext.drew {a w : World} (h : Ext a w) : Ext a w.drew := Below.drew h
theorem Ext.drewN {a w : World} (h : Ext a w) (n : Nat) : Ext a (w.drewN n) := ⟨h.os, h.tape, h.output, h.size, h.block⟩
theorem Ext.setCell {a w : World} (h : Ext a w) {p : Addr} (hp : a.heap.size ≤ p.block) (u : Value) : Ext a (w.setCell p u) := Below.setCell h hp u
/-- the rules that a walk takes: what was there reads as it did -/
theorem Ext.rules {w w' : World} (h : Ext w w') : (∀ b o, b < w.heap.size → w'.cell? ⟨b, o, none⟩ = w.cell? ⟨b, o, none⟩) ∧ (∀ b o, b < w.heap.size → w'.frozen? ⟨b, o, none⟩ = w.frozen? ⟨b, o, none⟩) ∧ w.heap.size ≤ w'.heap.size :=
  ⟨fun b o hb => Below.cell (p := ⟨b, o, none⟩) h hb, fun b o hb => Below.frozen (p := ⟨b, o, none⟩) h hb, h.size⟩

/-! ### what may have turned: blocks from B on whose elements are of some types -/
section
variable {B e : Nat}
/-- block b is an elder one, or its elements are of type e -/
def Typed (B e : Nat) (w : World) (b : Nat) : Prop := b < B ∨ ∃ c fr, w.heap[b]? = some (.cells c e fr)
structure Mut (B : Nat) (T : List Nat) (w w' : World) : Prop where
  os : w'.os = w.os
  tape : w'.tape = w.tape
  output : w'.output = w.output
  size : w.heap.size ≤ w'.heap.size
  block : ∀ b, b < w.heap.size → (b < B ∨ ∀ c e fr, w.heap[b]? = some (.cells c e fr) → e ∉ T) → w'.heap[b]? = w.heap[b]?
  type : ∀ (b : Nat) c e fr, w.heap[b]? = some (.cells c e fr) → ∃ c', w'.heap[b]? = some (.cells c' e fr)

theorem Ext.mut {T : List Nat} {w w' : World} (h : Ext w w') : Mut B T w w' :=
  ⟨h.os, h.tape, h.output, h.size, fun b hb _ => h.block b hb, fun b c e fr hb => ⟨c, (h.block b (Array.getElem?_eq_some_iff.1 hb).1).trans hb⟩⟩
theorem Mut.rfl' {T : List Nat} {w : World} : Mut B T w w := Ext.rfl'.mut
theorem Mut.trans {T : List Nat} {a b c : World} (h : Mut B T a b) (k : Mut B T b c) : Mut B T a c := by
  refine ⟨k.os.trans h.os, k.tape.trans h.tape, k.output.trans h.output, Nat.le_trans h.size k.size, fun i hi ht => ?_, fun i c0 e0 fr hb => ?_⟩
  · have h1 := h.block i hi ht
    refine (k.block i (Nat.lt_of_lt_of_le hi h.size) (ht.imp id fun hh c e fr hc => hh c e fr (h1 ▸ hc))).trans h1
  · obtain ⟨c1, h1⟩ := h.type i c0 e0 fr hb
    exact k.type i c1 e0 fr h1
theorem Mut.mono {T T' : List Nat} {a b : World} (h : Mut B T a b) (hT : ∀ e, e ∈ T → e ∈ T') : Mut B T' a b :=
  ⟨h.os, h.tape, h.output, h.size, fun i hi ht => h.block i hi (ht.imp id fun hh c e fr hc hm => hh c e fr hc (hT e hm)), h.type⟩
theorem Mut.less {T : List Nat} {B' : Nat} {a b : World} (h : Mut B T a b) (hB : B' ≤ B) : Mut B' T a b :=
  ⟨h.os, h.tape, h.output, h.size, fun i hi ht => h.block i hi (ht.imp (fun x => by omega) id), h.type⟩
theorem Mut.ext {T : List Nat} {a b c : World} (h : Mut B T a b) (k : Ext b c) : Mut B T a c := h.trans k.mut
theorem Mut.alloc {T : List Nat} {a w : World} (h : Mut B T a w) (o : Obj) : Mut B T a (w.alloc o) := h.ext (Ext.rfl'.alloc o)
theorem Mut.drew {T : List Nat} {a w : World} (h : Mut B T a w) : Mut B T a w.drew := h.ext Ext.rfl'.drew
theorem Mut.drewN {T : List Nat} {a w : World} (h : Mut B T a w) (n : Nat) : Mut B T a (w.drewN n) := h.ext (Ext.rfl'.drewN n)
theorem heap_set_type {w : World} {p : Addr} {u : Value} {b : Nat} {c : Array Value} {e : Nat} {fr : Nat × Nat} (h : w.heap[b]? = some (.cells c e fr)) : ∃ c', (w.setCell p u).heap[b]? = some (.cells c' e fr) := by
  by_cases hb : b = p.block
  · subst hb
    simp [World.setCell, Array.getElem?_modify, h]
  · exact ⟨c, (Below.heap_setCell w p u b hb).trans h⟩
/-- a store into a block of one of the types -/
theorem Mut.store {T : List Nat} {a w : World} (h : Mut B T a w) {p : Addr} {c : Array Value} {e : Nat} {fr : Nat × Nat} (hp : w.heap[p.block]? = some (.cells c e fr)) (he : e ∈ T) (hB : B ≤ p.block) (u : Value) : Mut B T a (w.setCell p u) := by
  refine h.trans ⟨rfl, rfl, rfl, by simp [World.setCell], fun b hb ht => Below.heap_setCell w p u b ?_, fun b c e fr hb => heap_set_type hb⟩
  rintro rfl
  rcases ht with ht | ht
  · omega
  · exact ht _ _ _ hp he
/-- a store into a block that is newer than a -/
theorem Mut.setNew {T : List Nat} {a w : World} (h : Mut B T a w) {p : Addr} (hp : a.heap.size ≤ p.block) (u : Value) : Mut B T a (w.setCell p u) := by
  refine ⟨h.os, h.tape, h.output, by simpa [World.setCell] using h.size, fun b hb ht => (Below.heap_setCell w p u b (by omega)).trans (h.block b hb ht), fun b c e fr hb => ?_⟩
  obtain ⟨c', h1⟩ := h.type b c e fr hb
  exact heap_set_type h1
theorem Mut.typed {T : List Nat} {w w' : World} (h : Mut B T w w') {b : Nat} (hb : Typed B e w b) (hlt : b < w.heap.size) (hT : e ∉ T) : w'.heap[b]? = w.heap[b]? := by
  refine h.block b hlt (hb.imp id ?_)
  rintro ⟨c, fr, h1⟩ c' e' fr' h2
  rw [h1] at h2
  cases h2
  exact hT
theorem Typed.mut {T : List Nat} {w w' : World} {b : Nat} (hb : Typed B e w b) (h : Mut B T w w') (hT : e ∉ T) : Typed B e w' b := by
  rcases hb with hb | ⟨c, fr, h1⟩
  · exact .inl hb
  · obtain ⟨c', h2⟩ := h.type b c e fr h1
    exact .inr ⟨c', fr, h2⟩
/-- a block known whole -/
theorem Mut.at_ {T : List Nat} {w w' : World} (h : Mut B T w w') {b : Nat} {c : Array Value} {fr : Nat × Nat} (hb : w.heap[b]? = some (.cells c e fr)) (hT : e ∉ T) : w'.heap[b]? = some (.cells c e fr) :=
  (h.typed (.inr ⟨c, fr, hb⟩) (Array.getElem?_eq_some_iff.1 hb).1 hT).trans hb
end

/-! ### a block that is known whole -/
def Blk (w : World) (b t : Nat) (cs : Array Value) : Prop := w.heap[b]? = some (.cells cs t (0, 0))
section
variable {w w' : World} {b t : Nat} {cs : Array Value}
theorem Blk.lt (h : Blk w b t cs) : b < w.heap.size := (Array.getElem?_eq_some_iff.1 h).1
theorem Blk.rules (h : Blk w b t cs) : (∀ o, w.cell? ⟨b, o, none⟩ = cs[o]?) ∧ (∀ o, w.frozen? ⟨b, o, none⟩ = false) ∧ b < w.heap.size :=
  ⟨fun o => cell_of_row w b o cs t (0, 0) h, fun o => by unfold Blk at h; simp [World.frozen?, h], h.lt⟩
theorem Blk.new (w : World) (t : Nat) (cs : Array Value) : Blk (w.alloc (.cells cs t)) w.heap.size t cs := heap_alloc_new w _
theorem Blk.ext (h : Blk w b t cs) (he : Ext w w') : Blk w' b t cs := (he.block b h.lt).trans h
theorem Blk.mut {B : Nat} {T : List Nat} (h : Blk w b t cs) (he : Mut B T w w') (hT : t ∉ T) : Blk w' b t cs := he.at_ h hT
theorem Mut.put {B : Nat} {T : List Nat} {a w : World} {b t : Nat} {cs : Array Value} (h : Mut B T a w) (hb : Blk a b t cs) (ht : t ∈ T) (hB : B ≤ b) (o : Nat) (s : Option Nat) (u : Value) : Mut B T a (w.setCell ⟨b, o, s⟩ u) := by
  obtain ⟨c', h1⟩ := h.type b _ _ _ hb
  exact h.store (p := ⟨b, o, s⟩) h1 ht hB u
theorem Blk.alloc (h : Blk w b t cs) (o : Obj) : Blk (w.alloc o) b t cs := h.ext (Ext.rfl'.alloc o)
theorem Blk.drew (h : Blk w b t cs) : Blk w.drew b t cs := h
theorem Blk.far (h : Blk w b t cs) {p : Addr} (hp : b ≠ p.block) (u : Value) : Blk (w.setCell p u) b t cs := (Below.heap_setCell w p u b hp).trans h
theorem Blk.set_ (h : Blk w b t cs) (i : Nat) (u : Value) : Blk (w.setCell ⟨b, i, none⟩ u) b t (cs.setIfInBounds i u) := by
  unfold Blk at h ⊢
  simp [World.setCell, Array.getElem?_modify, h]
theorem Blk.grew {row : Option Nat} (h : Blk w b t cs) (hg : w.grownBy w' row) (hr : some b ≠ row) : Blk w' b t cs := (hg.block b h.lt hr).trans h
end

/-! ### numbers -/
/-- a size that all fits into (behind a name: a long numeral stops the walk) -/
def big : Nat := 1099511627776
theorem big_is : big = 1099511627776 := rfl
theorem big_max {n : Nat} (h : n ≤ big) : n ≤ maxLen := by rw [big_is] at h; simp only [maxLen]; omega
theorem u64_wrap (x : Int) : IntKind.u64.wrap x = x % 18446744073709551616 := by simp [IntKind.wrap, IntKind.bits, IntKind.signed]
theorem u8_wrap (x : Int) : IntKind.u8.wrap x = x % 256 := by simp [IntKind.wrap, IntKind.bits, IntKind.signed]
theorem ret_bool {a b : Bool} (h : a = b) : Ending.returned (.bool a) = .returned (.bool b) := by rw [h]
theorem ret_int {k : IntKind} {a b : Int} (h : a = b) : Ending.returned (.int k a) = .returned (.int k b) := by rw [h]

/-! ### rows of cells -/
variable {B e : Nat}
/-- the cells of a slice value, from its beginning on -/
def rowAt (B e : Nat) (w : World) (A : Option Addr) (cs : List Value) : Prop :=
  cs ≠ [] → ∃ b o, A = some ⟨b, o, none⟩ ∧ Typed B e w b ∧ ∀ i v, cs[i]? = some v → w.cell? ⟨b, o + i, none⟩ = some v

theorem rowAt.mut {T : List Nat} {w w' : World} {A : Option Addr} {cs : List Value} (h : rowAt B e w A cs) (he : Mut B T w w') (hT : e ∉ T) : rowAt B e w' A cs := fun hn => by
  obtain ⟨b, o, h1, h0, h2⟩ := h hn
  exact ⟨b, o, h1, h0.mut he hT, fun i v hi => (World.cell?_of_block (w := w) (he.typed h0 (World.block_lt_of_cell? w _ (h2 i v hi)) hT)).trans (h2 i v hi)⟩
theorem rowAt.ext {w w' : World} {A : Option Addr} {cs : List Value} (h : rowAt B e w A cs) (he : Ext w w') : rowAt B e w' A cs := h.mut (T := []) he.mut (by simp)
theorem rowAt.nil (w : World) (A : Option Addr) : rowAt B e w A [] := fun h => absurd rfl h

/-- bytes -/
def bytesV (bs : List UInt8) : List Value := bs.map fun b => .int .u8 b.toNat
@[simp] theorem bytesV_length (bs : List UInt8) : (bytesV bs).length = bs.length := by simp [bytesV]
@[simp] theorem bytesV_append (a b : List UInt8) : bytesV (a ++ b) = bytesV a ++ bytesV b := by simp [bytesV]
theorem bytesV_get {bs : List UInt8} {k : Nat} (h : k < bs.length) : (bytesV bs)[k]? = some (.int .u8 bs[k].toNat) := by simp [bytesV, h]
theorem bytesV_one (bs : List UInt8) : ∀ u ∈ bytesV bs, u.oneCell' = true := by
  intro u hu
  obtain ⟨_, _, rfl⟩ := List.mem_map.1 hu
  rfl
def IsBytes (B : Nat) (w : World) (v : Value) (bs : List UInt8) : Prop :=
  ∃ A c, v = .slice A bs.length c ∧ bs.length ≤ c ∧ c ≤ maxLen ∧ (A = none → c = 0) ∧ rowAt B 5 w A (bytesV bs)
theorem IsBytes.form {w : World} {v : Value} {bs : List UInt8} (h : IsBytes B w v bs) : ∃ A c, v = .slice A bs.length c ∧ bs.length ≤ c ∧ c ≤ maxLen ∧ (A = none → c = 0) ∧ rowAt B 5 w A (bytesV bs) := h
theorem IsBytes.form_at {w : World} {A : Option Addr} {n c : Nat} {bs : List UInt8} (h : IsBytes B w (.slice A n c) bs) : rowAt B 5 w A (bytesV bs) := by
  obtain ⟨A', c', he, _, _, _, hr⟩ := h.form
  cases he; exact hr
theorem IsBytes.nilOk {w : World} {A : Option Addr} {n c : Nat} {bs : List UInt8} (h : IsBytes B w (.slice A n c) bs) : A = none → n = 0 ∧ c = 0 := by
  obtain ⟨A', c', he, h1, _, h3, hr⟩ := h.form
  cases he; intro hA; have := h3 hA; omega
theorem IsBytes.ext {w w' : World} {v : Value} {bs : List UInt8} (h : IsBytes B w v bs) (he : Ext w w') : IsBytes B w' v bs := by
  obtain ⟨A, c, h1, h2, h3, h3', h4⟩ := h
  exact ⟨A, c, h1, h2, h3, h3', h4.ext he⟩
theorem IsBytes.nil (w : World) : IsBytes B w (.slice none 0 0) [] := ⟨none, 0, rfl, Nat.le_refl _, by simp [maxLen], fun _ => rfl, rowAt.nil _ _⟩

/-- a list of things, each of some cells -/
def Each {α : Type} (R : World → List Value → α → Prop) (w : World) : List Value → List α → Prop
  | cs, [] => cs = []
  | cs, x :: xs => ∃ c0 c1, cs = c0 ++ c1 ∧ R w c0 x ∧ Each R w c1 xs

def IsSlice {α : Type} (B e : Nat) (R : World → List Value → α → Prop) (w : World) (v : Value) (xs : List α) : Prop :=
  ∃ A c cs, v = .slice A xs.length c ∧ xs.length ≤ c ∧ c ≤ maxLen ∧ (A = none → c = 0) ∧ rowAt B e w A cs ∧ Each R w cs xs

section
variable {α : Type} {R : World → List Value → α → Prop} {w w' : World} {n : Nat}
theorem Each.ext (hR : ∀ c x, R w c x → R w' c x) : ∀ {xs : List α} {cs : List Value}, Each R w cs xs → Each R w' cs xs
  | [], _, h => h
  | _ :: _, _, ⟨c0, c1, h1, h2, h3⟩ => ⟨c0, c1, h1, hR _ _ h2, Each.ext hR h3⟩
theorem Each.len (hR : ∀ c x, R w c x → c.length = n) : ∀ {xs : List α} {cs : List Value}, Each R w cs xs → cs.length = xs.length * n
  | [], _, h => by simp only [Each] at h; subst h; simp
  | x :: xs, _, ⟨c0, c1, h1, h2, h3⟩ => by subst h1; simp [hR _ _ h2, Each.len hR h3, Nat.add_mul]; omega
theorem Each.at_ (hR : ∀ c x, R w c x → c.length = n) :
    ∀ {xs : List α} {cs : List Value} {k : Nat} (_ : Each R w cs xs) (hk : k < xs.length), ∃ c0, R w c0 (xs[k]) ∧ ∀ j v, c0[j]? = some v → cs[k * n + j]? = some v
  | x :: xs, _, 0, ⟨c0, c1, h1, h2, h3⟩, _ => ⟨c0, h2, fun j v hj => by
      subst h1; rw [List.getElem?_append_left (by have := (List.getElem?_eq_some_iff.1 hj).1; omega)]; simpa using hj⟩
  | x :: xs, _, k + 1, ⟨c0, c1, h1, h2, h3⟩, hk => by
      obtain ⟨c, hc, hj⟩ := Each.at_ hR (k := k) h3 (by simpa using hk)
      refine ⟨c, hc, fun j v hv => ?_⟩
      subst h1
      have := hR _ _ h2
      rw [List.getElem?_append_right (by rw [this, Nat.add_mul]; omega), this, ← hj j v hv]
      congr 1
      rw [Nat.add_mul]; omega
theorem Each.append : ∀ {xs ys : List α} {cs ds : List Value}, Each R w cs xs → Each R w ds ys → Each R w (cs ++ ds) (xs ++ ys)
  | [], _, _, _, h, k => by simp only [Each] at h; subst h; simpa using k
  | _ :: _, _, _, _, ⟨c0, c1, h1, h2, h3⟩, k => by subst h1; exact ⟨c0, c1 ++ _, by simp, h2, Each.append h3 k⟩
theorem Each.one {c : List Value} {x : α} (h : R w c x) : Each R w c [x] := ⟨c, [], by simp, h, rfl⟩
theorem Each.take (hR : ∀ c x, R w c x → c.length = n) : ∀ {xs : List α} {cs : List Value} (k : Nat), Each R w cs xs → Each R w (cs.take (k * n)) (xs.take k)
  | [], _, k, h => by simp only [Each] at h; subst h; simp [Each]
  | x :: xs, _, 0, h => by simp [Each]
  | x :: xs, _, k + 1, ⟨c0, c1, h1, h2, h3⟩ => by
    subst h1
    have hl := hR _ _ h2
    refine ⟨c0, c1.take (k * n), ?_, h2, Each.take hR k h3⟩
    rw [List.take_append, List.take_of_length_le (by rw [hl, Nat.add_mul]; omega), hl]
    congr 2
    rw [Nat.add_mul]; omega
theorem Each.drop (hR : ∀ c x, R w c x → c.length = n) : ∀ {xs : List α} {cs : List Value} (k : Nat), Each R w cs xs → Each R w (cs.drop (k * n)) (xs.drop k)
  | [], _, k, h => by simp only [Each] at h; subst h; simp [Each]
  | x :: xs, _, 0, h => by simpa using h
  | x :: xs, _, k + 1, ⟨c0, c1, h1, h2, h3⟩ => by
    subst h1
    have hl := hR _ _ h2
    have := Each.drop hR k h3
    rw [List.drop_append, List.drop_eq_nil_of_le (by rw [hl, Nat.add_mul]; omega), hl, List.nil_append, List.drop_succ_cons]
    rw [show (k + 1) * n - n = k * n by rw [Nat.add_mul]; omega]
    exact this
theorem IsSlice.ext {v : Value} {xs : List α} (h : IsSlice B e R w v xs) (he : Ext w w') (hR : ∀ c x, R w c x → R w' c x) : IsSlice B e R w' v xs := by
  obtain ⟨A, c, cs, h1, h2, h3, h3', h4, h5⟩ := h
  exact ⟨A, c, cs, h1, h2, h3, h3', h4.ext he, h5.ext hR⟩
theorem IsSlice.nil : IsSlice B e R w (.slice none 0 0) ([] : List α) := ⟨none, 0, [], rfl, Nat.le_refl _, by simp [maxLen], fun _ => rfl, rowAt.nil _ _, rfl⟩
end

/-! ### rows that the call itself has made -/
theorem rowAt.of_own {w : World} {base : Nat} {size n : Nat} {A : Option Addr} {c : Nat} {xs : List Value} (h : w.ownsRow base e size (.slice A n c) n xs) : rowAt B e w A xs := by
  intro hne
  rcases h.2 with ⟨hv, rfl⟩ | ⟨g, cap, cur, hv, _, hg, _, _, _, htake⟩
  · have := h.1
    simp at this
    exact absurd this hne
  · injection hv with h1 h2 h3
    subst h1
    refine ⟨g, 0, rfl, .inr ⟨_, _, hg⟩, fun i v hi => ?_⟩
    have := h.cells (g := g) rfl i v hi
    simpa [Addr.add_lit] using this
theorem own_form {w : World} {base : Nat} {e : TypeId} {size n : Nat} {v : Value} {xs : List Value} (h : w.ownsRow base e size v n xs) : ∃ A c, v = .slice A n c ∧ n ≤ c ∧ c ≤ maxLen ∧ (A = none → c = 0) := by
  rcases h.2 with ⟨hv, rfl⟩ | ⟨g, cap, cur, hv, _, hg, h1, h2, _⟩
  · exact ⟨none, 0, hv, Nat.le_refl _, by simp [maxLen], fun _ => rfl⟩
  · exact ⟨_, _, hv, h1, h2, fun h => by cases h⟩
theorem IsBytes.of_own {w : World} {base : Nat} {v : Value} {n : Nat} {bs : List UInt8} (h : w.ownsRow base 5 1 v n (bytesV bs)) : IsBytes B w v bs := by
  obtain ⟨A, c, rfl, h1, h2, h3⟩ := own_form h
  have hl := h.1
  simp at hl
  subst hl
  exact ⟨A, c, rfl, h1, h2, h3, rowAt.of_own h⟩
theorem IsSlice.of_own {α : Type} {R : World → List Value → α → Prop} {w : World} {base : Nat} {size : Nat} {v : Value} {xs : List α} {cs : List Value} (h : w.ownsRow base e size v xs.length cs) (hE : Each R w cs xs) : IsSlice B e R w v xs := by
  obtain ⟨A, c, rfl, h1, h2, h3⟩ := own_form h
  exact ⟨A, c, cs, rfl, h1, h2, h3, rowAt.of_own h, hE⟩

/-- a new block, as a row -/
theorem row_new (w : World) (cs : List Value) : rowAt B e (w.alloc (.cells cs.toArray e)) (some ⟨w.heap.size, 0, none⟩) cs := fun _ =>
  ⟨w.heap.size, 0, rfl, .inr ⟨_, _, heap_alloc_new w _⟩, fun i v hi => by
    have h := cell_of_row (w.alloc (.cells cs.toArray e)) w.heap.size i cs.toArray e (0, 0) (heap_alloc_new w _)
    rw [Nat.zero_add, h]; simpa using hi⟩

/-! ### append -/
section
variable {P : Program} (w : World) {e' : Nat}

theorem run_append_of_nil (base : Nat) (t ty e : TypeId) (i : TypeInfo) (size : Nat) (ht : P.underlying t = some (.slice e)) (hi : P.info? e = some i)
    (v : Value) (n : Nat) (xs : List Value) (hown : w.ownsRow base e size v n xs) (c : Nat) : (Builtin.append_ #[t, t] ty #[v, .slice none 0 c]).run P w = .ok v w := by
  rcases hown.2 with ⟨rfl, rfl⟩ | ⟨g, cap, cur, rfl, _, _, hnc, _⟩
  · simp [Builtin.append_, run_underlying ht, sizeOf, typeInfo, hi, Builtin.lenOf, Builtin.firstCells]
  · simp [Builtin.append_, run_underlying ht, sizeOf, typeInfo, hi, Builtin.lenOf, Builtin.firstCells, hnc, storeCells]

/-- no block's elements become of another type -/
def Kinded (w w' : World) : Prop := ∀ (b : Nat) c e fr, w.heap[b]? = some (.cells c e fr) → ∃ c', w'.heap[b]? = some (.cells c' e fr)
/-- what an append leaves: only the row may have turned -/
structure Grew (w w' : World) (row : Option Nat) : Prop where
  by_ : w.grownBy w' row
  kinded : Kinded w w'
theorem Kinded.of_grown {w w' : World} (h : w.grownBy w' none) : Kinded w w' := fun b c e fr hb => ⟨c, (h.block b (Array.getElem?_eq_some_iff.1 hb).1 (by simp)).trans hb⟩

theorem run_append_any (base : Nat) (t ty e : TypeId) (i : TypeInfo) (z : Value) (size bytes : Nat) (ht : P.underlying t = some (.slice e)) (hi : P.info? e = some i) (hz : i.zero = some z)
    (hsize : i.size = size) (hby : i.bytes = bytes) (hzs : z.cells.size = size) (hsz : 0 < size)
    (v : Value) (n : Nat) (xs : List Value) (hown : w.ownsRow base e size v n xs)
    (A : Option Addr) (m c : Nat) (news : List Value) (hl : news.length = m * size) (hr : rowAt B e' w A news) (h1 : ∀ u ∈ news, u.oneCell' = true)
    (h63 : n + m ≤ maxLen) (hbytes : (n + m) * bytes ≤ 140737488355328) (hbase : base ≤ w.heap.size) :
    ∃ v' w', (Builtin.append_ #[t, t] ty #[v, .slice A m c]).run P w = .ok v' w' ∧ w'.ownsRow base e size v' (n + m) (xs ++ news) ∧ Grew w w' v.ownBlock ∧
      (v'.ownBlock = v.ownBlock ∨ v'.ownBlock = some w.heap.size) := by
  rcases A with _ | a
  · have hm : m = 0 := by
      rcases Nat.eq_zero_or_pos m with h0 | h0
      · exact h0
      · have hne : news ≠ [] := by
          intro h; subst h
          have : 0 < m * size := Nat.mul_pos h0 hsz
          simp at hl; omega
        obtain ⟨b, o, h, _, _⟩ := hr hne
        cases h
    subst hm
    have hn : news = [] := List.eq_nil_of_length_eq_zero (by simpa using hl)
    subst hn
    exact ⟨v, w, run_append_of_nil w base t ty e i size ht hi v n xs hown c, by simpa using hown, ⟨World.grownBy.refl w _, fun b c e fr hb => ⟨c, hb⟩⟩, .inl rfl⟩
  · have hnews : ∀ j u, news[j]? = some u → w.cell? (a.add j) = some u := by
      intro j u hu
      have hne : news ≠ [] := by intro h; subst h; simp at hu
      obtain ⟨b, o, h, _, hc⟩ := hr hne
      injection h with h
      subst h
      rw [Addr.add_lit]
      exact hc j u hu
    subst hsize
    subst hby
    have hsmall : n + m ≤ 9223372036854775807 := by simp only [maxLen] at h63; omega
    have hlen : (xs ++ news).length = (n + m) * i.size := by rw [List.length_append, hown.1, hl, Nat.add_mul]
    have grown : ∀ (old : Nat), old < n + m →
        (w.drew.alloc (.cells (xs.toArray ++ news.toArray ++ Builtin.zeroCells z.cells (grownCap w (n + m) old e - (n + m))) e)).ownsRow base e i.size
          (.slice (some ⟨w.heap.size, 0, none⟩) (n + m) (grownCap w (n + m) old e)) (n + m) (xs ++ news) ∧
        w.grownBy (w.drew.alloc (.cells (xs.toArray ++ news.toArray ++ Builtin.zeroCells z.cells (grownCap w (n + m) old e - (n + m))) e)) none := by
      intro old ho
      have hge := grownCap_ge w (n + m) old e
      have hcm : grownCap w (n + m) old e ≤ maxLen := grownCap_le_maxLen w (n + m) old e h63
      refine ⟨⟨hlen, .inr ⟨w.heap.size, _, _, rfl, hbase, heap_alloc_new w.drew _, hge, hcm, ?_, ?_⟩⟩, ⟨rfl, rfl, rfl, by simp, fun k hk _ => Below.heap_alloc w.drew _ k hk⟩⟩
      · simp only [Array.size_append, List.size_toArray, size_zeroCells, hzs, hown.1, hl, ← Nat.add_mul]
        congr 1
        omega
      · simp only [Array.toList_append, List.append_assoc]
        rw [← List.append_assoc, ← hlen]
        exact List.take_left
    have loosen : ∀ {w1 : World} (row : Option Nat), w.grownBy w1 none → w.grownBy w1 row := fun row h => ⟨h.os, h.tape, h.output, h.size, fun k hk _ => h.block k hk (by simp)⟩
    rcases hown.2 with ⟨rfl, rfl⟩ | ⟨g, cap, cur, rfl, hbg, hg, hnc, hcm, hcs, htake⟩
    · have hx : xs = [] := List.eq_nil_of_length_eq_zero (by simpa using hown.1)
      subst hx
      by_cases hm : m = 0
      · subst hm
        have hn : news = [] := List.eq_nil_of_length_eq_zero (by simpa using hl)
        subst hn
        refine ⟨.slice none 0 0, w, ?_, World.ownsRow_nil w base e i.size, ⟨⟨rfl, rfl, rfl, Nat.le_refl _, fun _ _ _ => rfl⟩, fun b c e fr hb => ⟨c, hb⟩⟩, .inl rfl⟩
        simp [Builtin.append_, run_underlying ht, sizeOf, typeInfo, hi, Builtin.lenOf, Builtin.firstCells, loadCells, loadCellsFrom]
      · have hrn := run_append_nil (P := P) w t ty e i z ht hi hz a m c news hl hnews (by omega) (by omega) (by have hb := hbytes; simp only [Nat.zero_add] at hb; omega)
        have hgr := grown 0 (by omega)
        simp only [Nat.zero_add, List.nil_append, Array.empty_append] at hgr ⊢
        exact ⟨_, _, hrn, hgr.1, ⟨loosen _ hgr.2, Kinded.of_grown hgr.2⟩, .inr rfl⟩
    · by_cases hroom : n + m ≤ cap
      · have hfit : n * i.size + news.length ≤ cur.size := by rw [hl, hcs, ← Nat.add_mul]; exact Nat.mul_le_mul_right _ hroom
        have hrn := run_append_room (P := P) w t ty e i ht hi g n cap cur hg a m c news hl hnews h1 hroom hfit
        have hself := setRow_heap w g cur (cur.toList.take (n * i.size) ++ news ++ cur.toList.drop (n * i.size + news.length)).toArray e (0, 0) hg
        have hoth : ∀ k, k ≠ g → (w.setRow g (cur.toList.take (n * i.size) ++ news ++ cur.toList.drop (n * i.size + news.length)).toArray).heap[k]? = w.heap[k]? := fun k hk => setRow_other w g k _ hk
        refine ⟨_, _, hrn, ⟨hlen, .inr ⟨g, cap, _, rfl, hbg, hself, hroom, hcm, ?_, ?_⟩⟩, ⟨⟨rfl, rfl, rfl, by simp, fun k _ hk => hoth k (fun e => hk (by simp [Value.ownBlock, e]))⟩, fun b c e' fr hb => ?_⟩, .inl rfl⟩
        · simp only [List.size_toArray, List.length_append, List.length_take, List.length_drop, Array.length_toList]
          omega
        · rw [htake, ← hlen]
          exact List.take_left
        · by_cases hbg' : b = g
          · subst hbg'
            rw [hg] at hb
            cases hb
            exact ⟨_, hself⟩
          · exact ⟨c, (hoth b hbg').trans hb⟩
      · have holds : ∀ j u, xs[j]? = some u → w.cell? ((⟨g, 0, none⟩ : Addr).add j) = some u := hown.cells (g := g) rfl
        have hrn := run_append_grow (P := P) w t ty e i z ht hi hz ⟨g, 0, none⟩ n cap xs hown.1 holds a m c news hl hnews (by omega) (by omega) (growslice_fits (by omega) hbytes)
        have hgr := grown cap (by omega)
        exact ⟨_, _, hrn, hgr.1, ⟨loosen _ hgr.2, Kinded.of_grown hgr.2⟩, .inr rfl⟩

/-- append's frame -/
theorem Mut.grown {T : List Nat} {a w w' : World} {base size n : Nat} {v : Value} {xs : List Value} (h : Mut B T a w) (ho : w.ownsRow base e size v n xs) (hg : Grew w w' v.ownBlock) (hT : e ∈ T) (hB : B ≤ base) : Mut B T a w' := by
  refine h.trans ⟨hg.by_.os, hg.by_.tape, hg.by_.output, hg.by_.size, fun b hb ht => hg.by_.block b hb ?_, hg.kinded⟩
  intro hrow
  rcases ho.2 with ⟨rfl, _⟩ | ⟨g, cap, cur, rfl, hbg, hgg, _⟩
  · cases hrow
  · injection hrow with hrow
    subst hrow
    rcases ht with ht | ht
    · omega
    · exact ht _ _ _ hgg hT
/-- of a row that is newer than a: a reads as it did -/
theorem Ext.grown {a w w' : World} {base size n : Nat} {v : Value} {xs : List Value} (h : Ext a w) (ho : w.ownsRow base e size v n xs) (hg : Grew w w' v.ownBlock) (hB : a.heap.size ≤ base) : Ext a w' :=
  Below.grown h hg.by_ h.size fun k hk => Nat.le_trans hB (ho.lt k hk).1
theorem own_ext {w w' : World} {base size n : Nat} {v : Value} {xs : List Value} (h : w.ownsRow base e size v n xs) (he : Ext w w') : w'.ownsRow base e size v n xs := by
  refine ⟨h.1, ?_⟩
  rcases h.2 with hn | ⟨g, cap, cur, rfl, hb, hg, rest⟩
  · exact .inl hn
  · exact .inr ⟨g, cap, cur, rfl, hb, (he.block g (Array.getElem?_eq_some_iff.1 hg).1).trans hg, rest⟩
theorem own_mut {T : List Nat} {w w' : World} {base size n : Nat} {v : Value} {xs : List Value} (h : w.ownsRow base e size v n xs) (he : Mut B T w w') (hT : e ∉ T) : w'.ownsRow base e size v n xs := by
  refine ⟨h.1, ?_⟩
  rcases h.2 with hn | ⟨g, cap, cur, rfl, hb, hg, rest⟩
  · exact .inl hn
  · exact .inr ⟨g, cap, cur, rfl, hb, he.at_ hg hT, rest⟩
theorem own_set {w : World} {base size n : Nat} {v : Value} {xs : List Value} {p : Addr} (h : w.ownsRow base e size v n xs) (hp : v.ownBlock ≠ some p.block) (u : Value) : (w.setCell p u).ownsRow base e size v n xs := by
  refine ⟨h.1, ?_⟩
  rcases h.2 with hn | ⟨g, cap, cur, rfl, hb, hg, rest⟩
  · exact .inl hn
  · exact .inr ⟨g, cap, cur, rfl, hb, (Below.heap_setCell w p u g (by simpa [Value.ownBlock] using hp)).trans hg, rest⟩
theorem own_base {w : World} {base base' size n : Nat} {v : Value} {xs : List Value} (h : w.ownsRow base e size v n xs) (hb : base' ≤ base) : w.ownsRow base' e size v n xs := by
  refine ⟨h.1, ?_⟩
  rcases h.2 with hn | ⟨g, cap, cur, rfl, hb', rest⟩
  · exact .inl hn
  · exact .inr ⟨g, cap, cur, rfl, Nat.le_trans hb hb', rest⟩

theorem wp_append_any {o : Oper} {a : Act} {K : Act → World → Prop} {Q : Exit → Act → World → Prop} (s x : Operand) (t : TypeId)
    (ho : o.op = .call { callee := .builtin .append, args := #[s, x], argTypes := #[t, t] })
    (base : Nat) (e : TypeId) (i : TypeInfo) (z : Value) (size bytes : Nat) (ht : P.underlying t = some (.slice e)) (hi : P.info? e = some i) (hz : i.zero = some z)
    (hsize : i.size = size) (hby : i.bytes = bytes) (hzs : z.cells.size = size) (hsz : 0 < size)
    (v : Value) (n : Nat) (xs : List Value) (hs : a.eval s = v) (hown : w.ownsRow base e size v n xs)
    (A : Option Addr) (m c : Nat) (news : List Value) (hx : a.eval x = .slice A m c) (hl : news.length = m * size) (hr : rowAt B e' w A news) (h1 : ∀ u ∈ news, u.oneCell' = true)
    (h63 : n + m ≤ maxLen) (hbytes : (n + m) * bytes ≤ 140737488355328) (hbase : base ≤ w.heap.size)
    (h : ∀ v' w', w'.ownsRow base e size v' (n + m) (xs ++ news) → Grew w w' v.ownBlock → (v'.ownBlock = v.ownBlock ∨ v'.ownBlock = some w.heap.size) → K (a.put o.dst v') w') : o.wp P a w K Q := by
  obtain ⟨v', w', hrun, h2, h3, h4⟩ := run_append_any (P := P) w base t o.type e i z size bytes ht hi hz hsize hby hzs hsz v n xs hown A m c news hl hr h1 h63 hbytes hbase
  unfold Oper.wp execOp
  simp only [ho, resolve, invoke, builtin, Sem.run_bind, Sem.run_pure, Result.andThen_ok, List.map_toArray, List.map_cons, List.map_nil, hs, hx, hrun]
  exact h v' w' h2 h3 h4

theorem wpl_append {ops : Array Oper} {rest : List Oper} {o : Oper} {a : Act} {Q : Exit → Act → World → Prop} (hgd : o.guard = none) (s x : Operand) (t : TypeId)
    (ho : o.op = .call { callee := .builtin .append, args := #[s, x], argTypes := #[t, t] })
    (base : Nat) (e : TypeId) (i : TypeInfo) (z : Value) (size bytes : Nat) (ht : P.underlying t = some (.slice e)) (hi : P.info? e = some i) (hz : i.zero = some z)
    (hsize : i.size = size) (hby : i.bytes = bytes) (hzs : z.cells.size = size) (hsz : 0 < size)
    (v : Value) (n : Nat) (xs : List Value) (hs : a.eval s = v) (hown : w.ownsRow base e size v n xs)
    (A : Option Addr) (m c : Nat) (news : List Value) (hx : a.eval x = .slice A m c) (hl : news.length = m * size) (hr : rowAt B e' w A news) (h1 : ∀ u ∈ news, u.oneCell' = true)
    (h63 : n + m ≤ maxLen) (hbytes : (n + m) * bytes ≤ 140737488355328) (hbase : base ≤ w.heap.size)
    (h : ∀ v' w', w'.ownsRow base e size v' (n + m) (xs ++ news) → Grew w w' v.ownBlock → (v'.ownBlock = v.ownBlock ∨ v'.ownBlock = some w.heap.size) → wpList P ops Q rest (a.put o.dst v') w') : wpList P ops Q (o :: rest) a w :=
  wpList_plain hgd fun _ hK => wp_append_any w s x t ho base e i z size bytes ht hi hz hsize hby hzs hsz v n xs hs hown A m c news hx hl hr h1 h63 hbytes hbase fun v' w' h2 h3 h4 => hK _ _ (h v' w' h2 h3 h4)
theorem step_append {ops : Array Oper} {o : Oper} {a : Act} {K : Act → World → Prop} {Q : Exit → Act → World → Prop} {E : Prop} (hgd : o.guard = none) (s x : Operand) (t : TypeId)
    (ho : o.op = .call { callee := .builtin .append, args := #[s, x], argTypes := #[t, t] })
    (base : Nat) (e : TypeId) (i : TypeInfo) (z : Value) (size bytes : Nat) (ht : P.underlying t = some (.slice e)) (hi : P.info? e = some i) (hz : i.zero = some z)
    (hsize : i.size = size) (hby : i.bytes = bytes) (hzs : z.cells.size = size) (hsz : 0 < size)
    (v : Value) (n : Nat) (xs : List Value) (hs : a.eval s = v) (hown : w.ownsRow base e size v n xs)
    (A : Option Addr) (m c : Nat) (news : List Value) (hx : a.eval x = .slice A m c) (hl : news.length = m * size) (hr : rowAt B e' w A news) (h1 : ∀ u ∈ news, u.oneCell' = true)
    (h63 : n + m ≤ maxLen) (hbytes : (n + m) * bytes ≤ 140737488355328) (hbase : base ≤ w.heap.size)
    (h : ∀ v' w', w'.ownsRow base e size v' (n + m) (xs ++ news) → Grew w w' v.ownBlock → (v'.ownBlock = v.ownBlock ∨ v'.ownBlock = some w.heap.size) → K (a.put o.dst v') w') :
    if Region.wanted o (yielded ops a.tmps) = true then Oper.wp P o a w K Q else E := by
  have hw : Region.wanted o (yielded ops a.tmps) = true := by simp [Region.wanted, hgd]
  rw [if_pos hw]
  exact wp_append_any w s x t ho base e i z size bytes ht hi hz hsize hby hzs hsz v n xs hs hown A m c news hx hl hr h1 h63 hbytes hbase h
end

end Go.Proofs.YtpjodgoljocnlaaGreatDoor
