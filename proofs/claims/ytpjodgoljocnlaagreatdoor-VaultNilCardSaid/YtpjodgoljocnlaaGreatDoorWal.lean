/- The log of records: what it is, and its small calls, at a disk that is up. -/
import Derived.Test.YtpjodgoljocnlaaGreatDoorFlush
import Derived.Test.YtpjodgoljocnlaaGreatDoorLay
import Derived.Test.YtpjodgoljocnlaaGreatDoorClone
import Derived.Test.YtpjodgoljocnlaaGreatDoorOwn
import Derived.StillTactics
namespace Go.Proofs.YtpjodgoljocnlaaGreatDoor
open Go Go.RowKit
variable {B e' : Nat}
structure Wg where
  d : Dk
  dead : Bool
  turn : Nat
  first : Nat
  recs : List (List UInt8)
  places : List Nat
  fin : Nat
  used : Nat
  waits : Bool
def Wg.ring (g : Wg) : Nat := g.d.kept.length - 2
def Wg.next (g : Wg) : Nat := g.first + g.recs.length
def secs (n : Nat) : Nat := (n + 50) / 48
/-- a number of turns or records that is never reached -/
def huge : Nat := 4611686018427387904
theorem huge_is : huge = 4611686018427387904 := rfl
def sumSecs (l : List (List UInt8)) : Nat := (l.map fun r => secs r.length).sum
theorem sumSecs_append (a b : List (List UInt8)) : sumSecs (a ++ b) = sumSecs a + sumSecs b := by simp [sumSecs]
theorem sumSecs_one (a : List UInt8) : sumSecs [a] = secs a.length := by simp [sumSecs]
structure Wg.Ok (g : Wg) : Prop where
  ring : 3 ≤ g.d.kept.length
  turn : g.turn ≤ huge
  next : g.first + g.recs.length ≤ huge
  used : g.used ≤ g.ring
  fin : g.fin < g.ring
  len : g.places.length = g.recs.length
  pl : ∀ x, x ∈ g.places → x < g.ring
  rcs : ∀ x, x ∈ g.recs → x.length ≤ 32768
  few : g.recs.length ≤ g.used
  sum : g.used = sumSecs g.recs
def intsV (l : List Nat) : List Value := l.map fun (n : Nat) => Value.int .i64 (n : Int)
@[simp] theorem intsV_length (l : List Nat) : (intsV l).length = l.length := by simp [intsV]
@[simp] theorem intsV_append (a b : List Nat) : intsV (a ++ b) = intsV a ++ intsV b := by simp [intsV]
theorem intsV_get {l : List Nat} {k : Nat} (h : k < l.length) : (intsV l)[k]? = some (.int .i64 l[k]) := by simp [intsV, h]
theorem intsV_one (l : List Nat) : ∀ u ∈ intsV l, u.oneCell' = true := by
  intro u hu
  obtain ⟨_, _, rfl⟩ := List.mem_map.1 hu
  rfl
/-- one record in a row of records -/
def RecR (B : Nat) (w : World) (c : List Value) (x : List UInt8) : Prop := ∃ v, c = [v] ∧ IsBytes B w v x
theorem RecR.len {w : World} : ∀ c x, RecR B w c x → c.length = 1 := by rintro c x ⟨v, rfl, -⟩; rfl
theorem RecR.mut {T : List Nat} {w w' : World} (he : Mut B T w w') (hT : 5 ∉ T) : ∀ c x, RecR B w c x → RecR B w' c x := by rintro c x ⟨v, rfl, h⟩; exact ⟨v, rfl, h.mut he hT⟩
def WgCells (dp : Nat) (g : Wg) (rv pv : Value) : Array Value :=
  #[.pointer (some ⟨dp, 0, none⟩), .bool g.dead, .int .u64 g.turn, .int .u64 g.first, rv, pv, .int .i64 g.fin, .int .i64 g.used, .bool g.waits]
/-- records as they lie -/
structure Recs (B : Nat) (w : World) (rv : Value) (vs : List Value) (rs : List (List UInt8)) : Prop where
  row : w.ownsRow B 25 1 rv rs.length vs
  each : Each (RecR B) w vs rs
theorem Recs.mut {T : List Nat} {w w' : World} {rv : Value} {vs : List Value} {rs : List (List UInt8)} (h : Recs B w rv vs rs) (he : Mut B T w w') (h1 : 5 ∉ T) (h2 : 25 ∉ T) : Recs B w' rv vs rs :=
  ⟨own_mut h.row he h2, h.each.ext (RecR.mut he h1)⟩
def LogAt (B : Nat) (w : World) (p dp : Nat) (g : Wg) : Prop :=
  ∃ rv vs pv, Blk w p 97 (WgCells dp g rv pv) ∧ B ≤ p ∧ DiskAt B w dp g.d ∧ Recs B w rv vs g.recs ∧ w.ownsRow B 3 1 pv g.places.length (intsV g.places) ∧ g.Ok
theorem LogAt.form {w : World} {p dp : Nat} {g : Wg} (h : LogAt B w p dp g) :
    ∃ rv vs pv, Blk w p 97 (WgCells dp g rv pv) ∧ B ≤ p ∧ DiskAt B w dp g.d ∧ Recs B w rv vs g.recs ∧ w.ownsRow B 3 1 pv g.places.length (intsV g.places) ∧ g.Ok := h
theorem LogAt.mut {T : List Nat} {w w' : World} {p dp : Nat} {g : Wg} (h : LogAt B w p dp g) (he : Mut B T w w') (hT : ∀ t, t ∈ [91, 93, 95, 97, 25, 5, 3] → t ∉ T) : LogAt B w' p dp g := by
  obtain ⟨rv, vs, pv, h1, h2, h3, h4, h5, h6⟩ := h
  exact ⟨rv, vs, pv, h1.mut he (hT _ (by simp)), h2, h3.mut he (hT _ (by simp)) (hT _ (by simp)) (hT _ (by simp)), h4.mut he (hT _ (by simp)) (hT _ (by simp)), own_mut h5 he (hT _ (by simp)), h6⟩
theorem LogAt.ext {w w' : World} {p dp : Nat} {g : Wg} (h : LogAt B w p dp g) (he : Ext w w') : LogAt B w' p dp g := h.mut (T := []) he.mut (by simp)
/-- rows of records elsewhere are as they were -/
structure RecFar (p : Nat) (w w' : World) : Prop where
  far : ∀ b c fr, w.heap[b]? = some (.cells c 25 fr) → (∀ v, w.cell? ⟨p, 4, none⟩ = some v → v.ownBlock ≠ some b) → w'.heap[b]? = w.heap[b]?
  row : ∀ v', w'.cell? ⟨p, 4, none⟩ = some v' → ∀ b, v'.ownBlock = some b → b < w.heap.size → ∃ v, w.cell? ⟨p, 4, none⟩ = some v ∧ v.ownBlock = some b
theorem RecFar.trans {p : Nat} {a b c : World} (h : RecFar p a b) (k : RecFar p b c) (hs : a.heap.size ≤ b.heap.size) : RecFar p a c := by
  refine ⟨fun i ce fr hi hn => ?_, fun v' hv' i hi hlt => ?_⟩
  · have h1 := h.far i ce fr hi hn
    refine (k.far i ce fr (h1.trans hi) fun v hv hb => ?_).trans h1
    obtain ⟨u, hu, hub⟩ := h.row v hv i hb (Array.getElem?_eq_some_iff.1 hi).1
    exact hn u hu hub
  · obtain ⟨v, hv, hvb⟩ := k.row v' hv' i hi (by omega)
    exact h.row v hv i hvb hlt
theorem RecFar.of_mut {T : List Nat} {p : Nat} {w w' : World} {cs : Array Value} (h : Mut B T w w') (hp : Blk w p 97 cs) (h1 : 25 ∉ T) (h2 : 97 ∉ T) : RecFar p w w' := by
  have hc : w'.cell? ⟨p, 4, none⟩ = w.cell? ⟨p, 4, none⟩ := by rw [hp.rules.1, (hp.mut h h2).rules.1]
  exact ⟨fun b c fr hb _ => (h.at_ hb h1).trans hb.symm, fun v' hv' b hb _ => ⟨v', hc ▸ hv', hb⟩⟩
theorem RecFar.put {p : Nat} {w : World} {cs : Array Value} (hp : Blk w p 97 cs) {o : Nat} (ho : o ≠ 4) (u : Value) : RecFar p w (w.setCell ⟨p, o, none⟩ u) := by
  have h2 := hp.set_ o u
  have hc : (w.setCell ⟨p, o, none⟩ u).cell? ⟨p, 4, none⟩ = w.cell? ⟨p, 4, none⟩ := by rw [hp.rules.1, h2.rules.1]; simp [Array.getElem?_setIfInBounds, ho]
  refine ⟨fun b c fr hb _ => Below.heap_setCell w _ u b ?_, fun v' hv' b hb _ => ⟨v', hc ▸ hv', hb⟩⟩
  rintro rfl
  unfold Blk at hp
  rw [hp] at hb
  cases hb
theorem RecFar.rfl' {p : Nat} {w : World} : RecFar p w w := ⟨fun _ _ _ _ _ => rfl, fun v' hv' b hb _ => ⟨v', hv', hb⟩⟩

/-! small calls -/
set_option maxRecDepth 100000 in
set_option maxHeartbeats 1000000 in
theorem f58_calls (w : World) (n : Nat) (hn : n ≤ big) : Calls Tryz.prog 58 #[.int .i64 n] w fun e w' => e = .returned (.int .i64 (secs n)) ∧ w = w' := by
  rw [big_is] at hn
  go_enter Tryz.func58, Tryz.ntmps58
  go_wp2
  go_ret
  refine ⟨ret_int ?_, rfl⟩
  unfold secs
  omega
set_option maxRecDepth 100000 in
set_option maxHeartbeats 1000000 in
theorem f72_calls (w : World) (n : Nat) (hn : n ≤ big) : Calls Tryz.prog 72 #[.int .i64 n] w fun e w' => e = .returned (.int .i64 (secs n)) ∧ w = w' := by
  have C := f58_calls w n hn
  have C1 := Lib.hid C
  clear C hn
  go_enter Tryz.func72, Tryz.ntmps72
  go_wp2_with (go_at_call 58; refine C1.out.mono ?_; rintro e w' ⟨rfl, rfl⟩)
  go_ret
  exact ⟨rfl, rfl⟩
set_option maxRecDepth 100000 in
set_option maxHeartbeats 1000000 in
theorem f70_of (w : World) (p dp : Nat) (d : Dk) (r1 : w.cell? ⟨p, 0, none⟩ = some (.pointer (some ⟨dp, 0, none⟩))) (b3 : DiskAt B w dp d) (hr : 3 ≤ d.kept.length) :
    Calls Tryz.prog 70 #[.pointer (some ⟨p, 0, none⟩)] w fun e w' => e = .returned (.int .i64 (d.kept.length - 2 : Nat)) ∧ w' = w := by
  have C := f47_calls w dp d b3
  have C1 := Lib.hid C
  have hr2 : d.kept.length ≤ 65536 := by obtain ⟨_, _, _, _, _, _, _, hk⟩ := b3.form; exact hk.hi
  clear b3 C
  go_enter Tryz.func70, Tryz.ntmps70
  go_wp2_with (go_at_call 47; refine C1.out.mono ?_; rintro e w' ⟨rfl, rfl⟩)
  go_ret
  refine ⟨ret_int ?_, rfl⟩
  omega
theorem f70_calls (w : World) (p dp : Nat) (g : Wg) (h : LogAt B w p dp g) :
    Calls Tryz.prog 70 #[.pointer (some ⟨p, 0, none⟩)] w fun e w' => e = .returned (.int .i64 g.ring) ∧ w = w' := by
  obtain ⟨rv, vs, pv, b1, b2, b3, b4, b5, b6⟩ := h.form
  exact (f70_of w p dp g.d (by rw [b1.rules.1]; rfl) b3 b6.ring).mono fun e w' h => ⟨h.1, h.2.symm⟩
set_option maxRecDepth 100000 in
set_option maxHeartbeats 1000000 in
theorem f52_calls (w : World) (p dp : Nat) (g : Wg) (h : LogAt B w p dp g) :
    Calls Tryz.prog 52 #[.pointer (some ⟨p, 0, none⟩)] w fun e w' => e = .returned (.int .u64 g.first) ∧ w = w' := by
  obtain ⟨rv, vs, pv, b1, b2, b3, b4, b5, b6⟩ := h.form
  obtain ⟨r1, -, -⟩ := b1.rules
  clear h b1 b3 b4 b5 b6
  unfold WgCells at r1
  go_enter Tryz.func52, Tryz.ntmps52
  go_wp2
  go_ret
  exact ⟨rfl, rfl⟩
set_option maxRecDepth 100000 in
set_option maxHeartbeats 1000000 in
theorem f44_calls (w : World) (p dp : Nat) (g : Wg) (h : LogAt B w p dp g) :
    Calls Tryz.prog 44 #[.pointer (some ⟨p, 0, none⟩)] w fun e w' => e = .returned (.int .u64 g.next) ∧ w' = w.drew := by
  obtain ⟨rv, vs, pv, b1, b2, b3, b4, b5, b6⟩ := h.form
  obtain ⟨A, c, hA, -, -, -⟩ := own_form b4.row
  subst hA
  obtain ⟨r1, -, -⟩ := b1.rules
  have hn := b6.next
  rw [huge_is] at hn
  clear h b1 b3 b4 b5 b6
  unfold WgCells at r1
  go_enter Tryz.func44, Tryz.ntmps44
  go_wp2
  go_still (by kernel_rfl)
  go_wp2
  go_ret
  refine ⟨ret_int ?_, rfl⟩
  unfold Wg.next
  simp only [u64_wrap]
  omega
set_option maxRecDepth 100000 in
set_option maxHeartbeats 1000000 in
theorem f57_calls (w : World) (p dp : Nat) (g : Wg) (h : LogAt B w p dp g) (hd : g.dead = false) (hu : g.d.down = false) :
    Calls Tryz.prog 57 #[.pointer (some ⟨p, 0, none⟩)] w fun e w' => e = .returned (.int .i64 0) ∧ w = w' := by
  obtain ⟨rv, vs, pv, b1, b2, b3, b4, b5, b6⟩ := h.form
  obtain ⟨r1, -, -⟩ := b1.rules
  have C := f25_calls w dp g.d b3
  rw [hu] at C
  have C1 := Lib.hid C
  unfold WgCells at r1
  rw [hd] at r1
  clear h b1 b3 b4 b5 b6 C hu hd
  go_enter Tryz.func57, Tryz.ntmps57
  go_wp2_with (go_at_call 25; refine C1.out.mono ?_; rintro e w' ⟨rfl, rfl⟩)
  go_ret
  exact ⟨rfl, rfl⟩
set_option maxRecDepth 100000 in
set_option maxHeartbeats 1000000 in
theorem f38_calls (w : World) (p dp : Nat) (g : Wg) (h : LogAt B w p dp g) (hd : g.dead = false) (hu : g.d.down = false) :
    Calls Tryz.prog 38 #[.pointer (some ⟨p, 0, none⟩)] w fun e w' => e = .returned (.bool false) ∧ w = w' := by
  obtain ⟨rv, vs, pv, b1, b2, b3, b4, b5, b6⟩ := h.form
  obtain ⟨r1, -, -⟩ := b1.rules
  have C := f25_calls w dp g.d b3
  rw [hu] at C
  have C1 := Lib.hid C
  unfold WgCells at r1
  rw [hd] at r1
  clear h b1 b3 b4 b5 b6 C hu hd
  go_enter Tryz.func38, Tryz.ntmps38
  go_wp2_with (go_at_call 25; refine C1.out.mono ?_; rintro e w' ⟨rfl, rfl⟩)
  go_ret
  exact ⟨rfl, rfl⟩
end Go.Proofs.YtpjodgoljocnlaaGreatDoor
