/- wal.tell. -/
import Derived.Test.YtpjodgoljocnlaaGreatDoorCat
namespace Go.Proofs.YtpjodgoljocnlaaGreatDoor
open Go Go.RowKit
variable {B e' : Nat}
/-- a disk that is up, and is not to be hit -/
structure Calm (d : Dk) : Prop where
  up : d.down = false
  free : d.armed = 0
def flD (d : Dk) : Dk := { d with kept := flushK d.kept d.wait, wait := [] }
theorem Calm.hitB {d : Dk} (h : Calm d) : hitB d = false := by simp [YtpjodgoljocnlaaGreatDoor.hitB, h.free]
theorem Calm.hitDk {d : Dk} (h : Calm d) : hitDk d = d := by simp [YtpjodgoljocnlaaGreatDoor.hitDk, h.free]
theorem Calm.flush {d : Dk} (h : Calm d) : flushDk d = flD d := by simp [flushDk, h.up, h.hitB, h.hitDk, flD]
theorem Calm.fl {d : Dk} (h : Calm d) : Calm (flD d) := ⟨h.up, h.free⟩
theorem Calm.wr {d : Dk} (h : Calm d) (i : Nat) (b : List UInt8) : Calm (writeDk d i b) := ⟨h.up, h.free⟩
structure Hd where
  turn : Nat
  first : Nat
  next : Nat
  start : Nat
  fin : Nat
def headB (h : Hd) : List UInt8 := be8 h.turn ++ be8 h.first ++ be8 h.next ++ be8 h.start ++ be8 h.fin ++ List.replicate 16 0 ++ be8 h.turn
theorem headB_length (h : Hd) : (headB h).length = 64 := by simp [headB, be8_length]
theorem spl_mid (a b c x : List Value) (h : b.length = x.length) : spl (a ++ b ++ c) a.length x = a ++ x ++ c := by
  simp only [spl, List.append_assoc, List.take_left]
  congr 2
  rw [← h, ← List.length_append, ← List.append_assoc, List.drop_left]
def z8 : List Value := List.replicate 8 (.int .u8 0)
theorem be8V_length (v : Nat) : (bytesV (be8 v)).length = 8 := by simp [be8_length]
theorem headB_lay (h : Hd) :
    spl (spl (spl (spl (spl (spl (List.replicate 64 (Value.int .u8 0)) 0 (bytesV (be8 h.turn))) 8 (bytesV (be8 h.first))) 16 (bytesV (be8 h.next))) 24 (bytesV (be8 h.start))) 32 (bytesV (be8 h.fin))) 56 (bytesV (be8 h.turn)) = bytesV (headB h) := by
  have hz : List.replicate 64 (Value.int .u8 0) = [] ++ z8 ++ (z8 ++ (z8 ++ (z8 ++ (z8 ++ (List.replicate 16 (.int .u8 0) ++ z8))))) := by simp [z8]
  have l1 : z8.length = 8 := by simp [z8]
  have e := be8V_length
  have s1 := spl_mid [] z8 (z8 ++ (z8 ++ (z8 ++ (z8 ++ (List.replicate 16 (.int .u8 0) ++ z8))))) (bytesV (be8 h.turn)) (by rw [l1, e])
  have s2 := spl_mid (bytesV (be8 h.turn)) z8 (z8 ++ (z8 ++ (z8 ++ (List.replicate 16 (.int .u8 0) ++ z8)))) (bytesV (be8 h.first)) (by rw [l1, e])
  have s3 := spl_mid (bytesV (be8 h.turn) ++ bytesV (be8 h.first)) z8 (z8 ++ (z8 ++ (List.replicate 16 (.int .u8 0) ++ z8))) (bytesV (be8 h.next)) (by rw [l1, e])
  have s4 := spl_mid (bytesV (be8 h.turn) ++ bytesV (be8 h.first) ++ bytesV (be8 h.next)) z8 (z8 ++ (List.replicate 16 (.int .u8 0) ++ z8)) (bytesV (be8 h.start)) (by rw [l1, e])
  have s5 := spl_mid (bytesV (be8 h.turn) ++ bytesV (be8 h.first) ++ bytesV (be8 h.next) ++ bytesV (be8 h.start)) z8 (List.replicate 16 (.int .u8 0) ++ z8) (bytesV (be8 h.fin)) (by rw [l1, e])
  have s6 := spl_mid (bytesV (be8 h.turn) ++ bytesV (be8 h.first) ++ bytesV (be8 h.next) ++ bytesV (be8 h.start) ++ bytesV (be8 h.fin) ++ List.replicate 16 (.int .u8 0)) z8 [] (bytesV (be8 h.turn)) (by rw [l1, e])
  simp only [List.length_append, e, List.length_nil, List.length_replicate, Nat.reduceAdd, List.append_nil, List.nil_append, List.append_assoc] at s1 s2 s3 s4 s5 s6 hz
  rw [hz, s1, s2, s3, s4, s5, s6]
  simp [headB, bytesV]
def telH (g : Wg) (gone : Nat) : Hd := ⟨g.turn + 1, g.first + gone, g.next, g.places.getD gone g.fin, g.fin⟩
def telD (g : Wg) (gone : Nat) : Dk := flD (writeDk (flD g.d) ((g.turn + 1) % 2) (headB (telH g gone)))
def telG (g : Wg) (gone : Nat) : Wg :=
  { g with d := telD g gone, turn := g.turn + 1, first := g.first + gone, used := g.used - sumSecs (g.recs.take gone), recs := g.recs.drop gone, places := g.places.drop gone }
theorem sumSecs_split (l : List (List UInt8)) (k : Nat) : sumSecs l = sumSecs (l.take k) + sumSecs (l.drop k) := by
  rw [← sumSecs_append, List.take_append_drop]
theorem len_sumSecs (l : List (List UInt8)) : l.length ≤ sumSecs l := by
  induction l with
  | nil => simp [sumSecs]
  | cons a l ih => simp only [sumSecs, List.map_cons, List.sum_cons, List.length_cons] at *; have := secs_pos a.length; omega
theorem flD_len (d : Dk) : (flD d).kept.length = d.kept.length := by simp [flD, flushK_len]
theorem telD_len (g : Wg) (k : Nat) : (telD g k).kept.length = g.d.kept.length := by simp [telD, flD_len, writeDk]
theorem telG_ok {g : Wg} {k : Nat} (h : g.Ok) (ht : g.turn < huge) (hk : k ≤ g.recs.length) : (telG g k).Ok := by
  have hr : (telG g k).ring = g.ring := by simp [Wg.ring, telG, telD_len]
  have hs := sumSecs_split g.recs k
  have hsum := h.sum
  refine ⟨by simpa [telG, telD_len] using h.ring, ht, ?_, ?_, by rw [hr]; exact h.fin, by simp [telG, h.len], ?_, ?_, ?_, ?_⟩
  · have := h.next; simp [telG]; omega
  · rw [hr]; have := h.used; simp [telG]; omega
  · intro x hx; rw [hr]; exact h.pl x (List.mem_of_mem_drop hx)
  · intro x hx; exact h.rcs x (List.mem_of_mem_drop hx)
  · have := len_sumSecs (g.recs.drop k); simp only [telG] at *; omega
  · simp only [telG]; omega

theorem own_at {w : World} {base e n c b o : Nat} {xs : List Value} {j : Nat} {x : Value} (h : w.ownsRow base e 1 (.slice (some ⟨b, o, none⟩) n c) n xs) (hj : xs[j]? = some x) : w.cell? ⟨b, o + j, none⟩ = some x ∧ b < w.heap.size := by
  obtain ⟨b', o', hA, -, hc⟩ := rowAt.of_own (B := 0) h (by intro h; rw [h] at hj; simp at hj)
  cases hA
  exact ⟨hc j x hj, World.block_lt_of_cell? w _ (hc j x hj)⟩
def zc64 : Array Value := (List.replicate 64 (Value.int .u8 0)).toArray
theorem zc64_made : madeCells (Value.int .u8 0).cells (64 * 1) = zc64 := by kernel_rfl
theorem f81_lay {w1 : World} (W : World) (b off n c v : Nat) (x : Int) (l : List Value) (hb : Blk W b 5 l.toArray) (hx : Ext w1 W) (hbn : w1.heap.size ≤ b) (hl : off + 8 ≤ l.length) (hn : 8 ≤ n) (hv : v < 18446744073709551616) (hxv : x = (v : Int)) :
    Calls Tryz.prog 81 #[.slice (some ⟨b, off, none⟩) n c, .int .u64 x] W fun e w' => e = .returned (.tuple #[]) ∧ Blk w' b 5 (spl l off (bytesV (be8 v))).toArray ∧ Ext w1 w' := by
  subst hxv
  exact (f81_calls W b off n c v l.toArray hb (by simpa using hl) hn hv).mono fun e w' h => ⟨h.1, by simpa using h.2.1, h.2.2.ext hx hbn⟩
theorem LogAt.disk {T : List Nat} {w w' : World} {p dp : Nat} {g : Wg} {d : Dk} (h : LogAt B w p dp g) (hd : DiskAt B w' dp d) (hm : Mut B T w w') (hl : d.kept.length = g.d.kept.length) (h1 : ∀ t, t ∈ [97, 25, 5, 3] → t ∉ T) : LogAt B w' p dp { g with d := d } := by
  obtain ⟨rv, vs, pv, b1, b2, b3, b4, b5, b6⟩ := h.form
  have hr : ({ g with d := d } : Wg).ring = g.ring := by simp [Wg.ring, hl]
  exact ⟨rv, vs, pv, b1.mut hm (h1 _ (by simp)), b2, hd, b4.mut hm (h1 _ (by simp)) (h1 _ (by simp)), own_mut b5 hm (h1 _ (by simp)), ⟨by simpa [hl] using b6.ring, b6.turn, b6.next, by rw [hr]; exact b6.used, by rw [hr]; exact b6.fin, b6.len, by rw [hr]; exact b6.pl, b6.rcs, b6.few, b6.sum⟩⟩
theorem IsBytes.of_blk {w : World} {b : Nat} {bs : List UInt8} (h : Blk w b 5 (bytesV bs).toArray) (hl : bs.length = 64) : IsBytes B w (.slice (some ⟨b, 0, none⟩) 64 64) bs := by
  refine ⟨some ⟨b, 0, none⟩, 64, by rw [hl], by omega, by simp [maxLen], by simp, fun _ => ⟨b, 0, rfl, .inr ⟨_, _, h⟩, fun i v hi => ?_⟩⟩
  rw [h.rules.1]; simpa using hi
theorem lay_len {l : List Value} {off v : Nat} (h : l.length = 64) (ho : off + 8 ≤ 64) : (spl l off (bytesV (be8 v))).length = 64 := by
  rw [spl_length (by rw [be8V_length, h]; exact ho), h]
def usedAt (g : Wg) (j : Nat) : Nat := g.used - sumSecs (g.recs.take j)
theorem usedAt_zero (g : Wg) : usedAt g 0 = g.used := by simp [usedAt, sumSecs]
theorem usedAt_succ {g : Wg} (h : g.Ok) {j : Nat} (hj : j < g.recs.length) : usedAt g (j + 1) + secs g.recs[j].length = usedAt g j ∧ usedAt g j ≤ g.used := by
  have h1 := sumSecs_split g.recs (j + 1)
  have h2 : sumSecs (g.recs.take (j + 1)) = sumSecs (g.recs.take j) + secs g.recs[j].length := by rw [take_snoc hj, sumSecs_append, sumSecs_one]
  have h3 := h.sum
  unfold usedAt
  omega
theorem Calm.tel {g : Wg} (h : Calm g.d) (k : Nat) : Calm (telD g k) := (h.fl.wr _ _).fl
theorem recs_one {w : World} : ∀ {xs : List (List UInt8)} {vs : List Value}, Each (RecR B) w vs xs → ∀ u ∈ vs, u.oneCell' = true
  | [], _, h, u, hu => by simp only [Each] at h; subst h; simp at hu
  | x :: xs, _, ⟨c0, c1, h1, ⟨v, h2, hv⟩, h3⟩, u, hu => by
    subst h1 h2
    obtain ⟨A, c, rfl, -⟩ := hv.form
    rcases List.mem_cons.1 hu with rfl | hu
    · rfl
    · exact recs_one h3 u hu
theorem recs_len {w : World} {xs : List (List UInt8)} {vs : List Value} (h : Each (RecR B) w vs xs) : vs.length = xs.length := by
  have := h.len RecR.len; omega
theorem row_from {e : Nat} {w : World} {A : Option Addr} {vs : List Value} {n c k : Nat} (h : rowAt B e w A vs) (hn : vs.length = n) (hc : n ≤ c) (hk : k ≤ n) : rowAt B e w (if c = k then A else A.map (·.add (k * 1))) (vs.drop k) := by
  intro hne
  have hlt : k < vs.length := by
    rcases Nat.lt_or_ge k vs.length with h1 | h1
    · exact h1
    · exact absurd (List.drop_eq_nil_of_le h1) hne
  rw [if_neg (by omega)]
  obtain ⟨b, o, rfl, ht, hcell⟩ := h (by intro h; rw [h] at hlt; simp at hlt)
  refine ⟨b, o + k, by simp [Addr.add_lit], ht, fun i v hi => ?_⟩
  rw [List.getElem?_drop] at hi
  have := hcell (k + i) v hi
  rwa [← Nat.add_assoc] at this
theorem from_nil {A : Option Addr} {n c k : Nat} (h : A = none → c = 0) (hn : n ≤ c) : (if c = k then A else A.map (·.add (k * 1))) = none → n - k = 0 ∧ c - k = 0 := by
  intro h1
  split at h1
  · omega
  · cases A with
    | none => have := h rfl; omega
    | some a => simp at h1
theorem run_from (t e : TypeId) (i : TypeInfo) (ht : Tryz.prog.underlying t = some (.slice e)) (hi : Tryz.prog.info? e = some i) (hs : i.size = 1) (A : Option Addr) (n c k : Nat) (hk : k ≤ n) (W : World) :
    (Instr.slice t (.slice A n c) (some (.int .i64 (k : Int))) none none).run Tryz.prog W = .ok (.slice (if c = k then A else A.map (·.add (k * 1))) (n - k) (c - k)) W := by
  have he : Tryz.prog.elem t = e := by simp [Program.elem, ht]
  have h := run_slice_l (P := Tryz.prog) W t A n c (by rw [he]; exact ht) .i64 (k : Int) (by omega) (by omega)
  rw [h, he]
  simp [sizeOf, typeInfo, hi, hs, sliced]
theorem tell_done {wB : World} {p dp k : Nat} {g : Wg} {rv0 pv0 rv pv : Value} {vs : List Value} (hp : Blk wB p 97 #[.pointer (some ⟨dp, 0, none⟩), .bool g.dead, .int .u64 ((g.turn : Int) + 1), .int .u64 ((g.first : Int) + (k : Int)), rv0, pv0, .int .i64 g.fin, .int .i64 (usedAt g k), .bool g.waits])
    (b2 : B ≤ p) (ho : wB.ownsRow B 25 1 rv (g.recs.length - k) (vs.drop k)) (he : Each (RecR B) wB vs g.recs) (hq : wB.ownsRow B 3 1 pv (g.places.length - k) ((intsV g.places).drop k)) (hd : DiskAt B wB dp (telD g k)) (hok : g.Ok) (ht : g.turn < huge) (hk : k ≤ g.recs.length) :
    LogAt B ((wB.setCell ⟨p, 4, none⟩ rv).setCell ⟨p, 5, none⟩ pv) p dp (telG g k) ∧ Mut B [97] wB ((wB.setCell ⟨p, 4, none⟩ rv).setCell ⟨p, 5, none⟩ pv) := by
  have p1 := hp.set_ 4 rv
  have p2 := p1.set_ 5 pv
  have m : Mut B [97] wB ((wB.setCell ⟨p, 4, none⟩ rv).setCell ⟨p, 5, none⟩ pv) := ((Mut.rfl' (w := wB)).put hp (by simp) b2 4 none rv).put hp (by simp) b2 5 none pv
  refine ⟨⟨rv, vs.drop k, pv, ?_, b2, hd.mut m (by simp) (by simp) (by simp), ⟨?_, ?_⟩, ?_, telG_ok hok ht hk⟩, m⟩
  · have e1 : ((g.turn : Int) + 1) = ((g.turn + 1 : Nat) : Int) := by simp
    have e2 : ((g.first : Int) + (k : Int)) = ((g.first + k : Nat) : Int) := by simp
    rw [e1, e2] at p2
    exact p2
  · have := own_mut ho m (by simp)
    simpa [telG] using this
  · have := (he.drop RecR.len k).ext (RecR.mut m (by simp))
    simpa [telG] using this
  · have := own_mut hq m (by simp)
    simpa [telG, intsV, List.map_drop] using this
theorem LogAt.len {w : World} {p dp : Nat} {g : Wg} (h : LogAt B w p dp g) : g.d.kept.length ≤ 65536 := by
  obtain ⟨rv, vs, pv, b1, b2, b3, b4, b5, b6⟩ := h.form
  obtain ⟨_, _, _, _, _, _, _, hk⟩ := b3.form; exact hk.hi
set_option maxRecDepth 100000 in
set_option maxHeartbeats 4000000 in
theorem f51_calls (w : World) (p dp k : Nat) (g : Wg) (h : LogAt B w p dp g) (hB : B ≤ w.heap.size) (hc : Calm g.d) (ht : g.turn < huge) (hk : k ≤ g.recs.length) :
    Calls Tryz.prog 51 #[.pointer (some ⟨p, 0, none⟩), .int .i64 k] w fun e w' => e = .returned (.int .i64 0) ∧ LogAt B w' p dp (telG g k) ∧ Mut B [91, 93, 95, 97] w w' := by
  obtain ⟨i0, hi0, hz0, hs0, hb0⟩ := info_parts Tryz.info5
  have hmk : ∀ W, (Instr.makeSlice 25 (.int .i64 64) (.int .i64 64)).run Tryz.prog W = .ok (.slice (some ⟨W.heap.size, 0, none⟩) 64 64) (W.alloc (.cells zc64 5)) := fun W => by
    rw [← zc64_made]
    have := run_make_rowN (P := Tryz.prog) 25 5 i0 _ Tryz.underlying25 hi0 hz0 .i64 .i64 64 64 (Nat.le_refl _) (by rw [hb0]; omega) (by omega) W
    rw [hs0] at this
    exact this
  obtain ⟨rv, vs, pv, b1, b2, b3, b4, b5, b6⟩ := h.form
  obtain ⟨V, vc, hV, hvc, hvm, hvn⟩ := own_form b4.row
  subst hV
  obtain ⟨U, uc, hU, huc, hum, hun⟩ := own_form b5
  subst hU
  have HVN := Lib.hid hvn
  have HUN := Lib.hid hun
  clear hvn hun
  have hkv : k ≤ vc := by omega
  have hku : k ≤ uc := by have := b6.len; omega
  have hln := h.len
  have hr3 := b6.ring
  have hnx := b6.next
  have hpl := b6.len
  have hfin := b6.fin
  have hring : g.ring = g.d.kept.length - 2 := rfl
  have C70 := Lib.hid (f70_calls w p dp g h)
  have C80 := f80_up w dp g.d b3 hc.up hc.hitB
  rw [hc.flush] at C80
  have C80 := Lib.hid C80
  have B1 := Lib.hid b1
  have B3 := Lib.hid b3
  have B4 := Lib.hid b4
  have B5 := Lib.hid b5
  have B6 := Lib.hid b6
  have HC := Lib.hid hc
  obtain ⟨r1, r2, r3⟩ := b1.rules
  have hcell : ∀ j x, (intsV g.places)[j]? = some x → ∃ bu ou, U = some ⟨bu, ou, none⟩ ∧ bu < w.heap.size ∧ w.cell? ⟨bu, ou + j, none⟩ = some x := fun j x hj => by
    obtain ⟨bu, ou, hU, -, hcc⟩ := rowAt.of_own (B := B) b5 (by intro h; rw [h] at hj; simp at hj)
    exact ⟨bu, ou, hU, World.block_lt_of_cell? w _ (hcc j x hj), hcc j x hj⟩
  have HCELL := Lib.hid hcell
  unfold WgCells at r1
  rw [huge_is] at ht hnx
  have hrl : decide ((g.ring : Int) < 1) = false := decide_eq_false (by omega)
  have HPL := Lib.hid hpl
  have HRING := Lib.hid hring
  have HL := Lib.hid h
  clear h b1 b3 b4 b5 b6 hc hpl hring hcell
  obtain ⟨S, hS⟩ : ∃ S, S = g.places.getD k g.fin := ⟨_, rfl⟩
  have hSr : S < 65536 := by
    rw [hS]
    by_cases hkl : k < g.places.length
    · simp only [List.getD_eq_getElem?_getD, List.getElem?_eq_getElem hkl, Option.getD_some]; have := B6.out.pl _ (List.getElem_mem hkl); have := HRING.out; omega
    · simp only [List.getD_eq_getElem?_getD, List.getElem?_eq_none (Nat.le_of_not_lt hkl), Option.getD_none]; have := HRING.out; omega
  have HS := Lib.hid hS
  by_cases hkl : k < g.places.length
  · obtain ⟨bu, ou, hU, hbu, hcu⟩ := HCELL.out k _ (intsV_get hkl)
    have hSk : g.places[k] = S := by simp only [hS, List.getD_eq_getElem?_getD, List.getElem?_eq_getElem hkl, Option.getD_some]
    rw [hSk] at hcu
    subst hU
    have hkd : decide (k < g.places.length) = true := decide_eq_true hkl
    have hki : (k : Int) < g.places.length := by omega
    have HSK := Lib.hid hSk
    clear hS hSk hcu
    go_enter Tryz.func51, Tryz.ntmps51
    go_wp2_with (first | (go_at_call 70; refine C70.out.mono ?_; rintro e w' ⟨rfl, rfl⟩; clear C70) | (go_at_call 80; refine C80.out.mono ?_; rintro e w1 ⟨rfl, hd1, hm1⟩; have hcu := own_at (own_mut B5.out hm1 (by simp)) (intsV_get hkl); rw [HSK.out] at hcu; obtain ⟨hcu1, hcu2⟩ := hcu; have p1 := B1.out.mut hm1 (by simp); obtain ⟨x1, x2, x3⟩ := p1.rules; unfold WgCells at x1; have HD1 := Lib.hid hd1; have HM1 := Lib.hid hm1; have P1 := Lib.hid p1; clear hd1 hm1 p1 C80 r1 r2 r3))
    have hfb : g.first + k < 18446744073709551616 := by omega
    have hw1 : IntKind.u64.wrap (k : Int) = k := IntWalk.u64_in _ ⟨by omega, by omega⟩
    have hw2 : IntKind.u64.wrap ((g.first : Int) + (k : Int)) = (g.first : Int) + k := IntWalk.u64_in _ ⟨by omega, by omega⟩
    have hw3 : IntKind.u64.wrap (S : Int) = S := IntWalk.u64_in _ ⟨by omega, by omega⟩
    have hfr : g.fin ≤ 65536 := by have := HRING.out; omega
    have hw4 : IntKind.u64.wrap (g.fin : Int) = g.fin := IntWalk.u64_in _ ⟨by omega, by omega⟩
    have L1 := Lib.hid (HL.out.disk HD1.out HM1.out (flD_len _) (by simp))
    have H1 := Lib.hid (show ({ g with d := flD g.d } : Wg).next = g.next from rfl)
    have hb5 := Blk.new w1 5 zc64
    have e64 : zc64 = (List.replicate 64 (Value.int .u8 0)).toArray := rfl
    rw [e64] at hb5
    have HB5 := Lib.hid hb5
    have C1 := Lib.hid (f81_lay (w1 := w1) (w1.alloc (.cells zc64 5)) w1.heap.size 0 64 64 (g.turn + 1) ((g.turn : Int) + 1) _ hb5 (Ext.rfl'.alloc _) (Nat.le_refl _) (by simp) (by omega) (by omega) (by simp))
    clear hb5 e64
    go_wp2_with (go_at_call 81; refine C1.out.mono ?_; rintro e w2 ⟨rfl, hb2, hx2⟩; have HB2 := Lib.hid hb2; have HX2 := Lib.hid hx2; clear C1 hb2 hx2)
    have p2 := P1.out.ext HX2.out
    obtain ⟨y1, y2, y3⟩ := p2.rules
    unfold WgCells at y1
    clear x1 x2 x3 p2
    have C2 := Lib.hid (f81_lay (w1 := w1) w2.drew w1.heap.size 8 56 56 (g.first + k) ((g.first : Int) + (k : Int)) _ HB2.out.drew HX2.out.drew (Nat.le_refl _) (by rw [spl_length] <;> simp [be8_length]) (by omega) hfb (by simp))
    go_still_tail 9, (by kernel_rfl)
    go_wp2_with (go_at_call 81; refine C2.out.mono ?_; rintro e w3 ⟨rfl, hb3, hx3⟩; have HB3 := Lib.hid hb3; have HX3 := Lib.hid hx3; clear C2 hb3 hx3)
    have z0 : (List.replicate 64 (Value.int .u8 0)).length = 64 := by simp
    have z1 := lay_len (off := 0) (v := g.turn + 1) z0 (by omega)
    have z2 := lay_len (off := 8) (v := g.first + k) z1 (by omega)
    have z3 := lay_len (off := 16) (v := g.next) z2 (by omega)
    have z4 := lay_len (off := 24) (v := S) z3 (by omega)
    have z5 := lay_len (off := 32) (v := g.fin) z4 (by omega)
    have HZ := Lib.hid (And.intro z2 (And.intro z3 (And.intro z4 z5)))
    have hnb : g.next < 18446744073709551616 := by unfold Wg.next; omega
    have C44 : Hid (Calls Tryz.prog 44 #[.pointer (some ⟨p, 0, none⟩)] w3.drew fun e w' => e = .returned (.int .u64 g.next) ∧ w' = w3.drew.drew) := Lib.hid (f44_calls w3.drew p dp { g with d := flD g.d } (L1.out.ext HX3.out.drew))
    have C3 := Lib.hid (f81_lay (w1 := w1) w3.drew.drew w1.heap.size 16 48 48 g.next (g.next : Int) _ HB3.out.drew.drew HX3.out.drew.drew (Nat.le_refl _) (by rw [HZ.out.1]; omega) (by omega) hnb rfl)
    clear z0 z1 z2 z3 z4 z5
    go_region_with (first | (go_at_call 44; refine C44.out.mono ?_; rintro e w4 ⟨rfl, rfl⟩; clear C44) | (go_at_call 81; refine C3.out.mono ?_; rintro e w4 ⟨rfl, hb4, hx4⟩; have HB4 := Lib.hid hb4; have HX4 := Lib.hid hx4; clear C3 hb4 hx4))
    have C4 := Lib.hid (f81_lay (w1 := w1) w4 w1.heap.size 24 40 40 S (S : Int) _ HB4.out HX4.out (Nat.le_refl _) (by rw [HZ.out.2.1]; omega) (by omega) (by omega) rfl)
    go_wp2_with (go_at_call 81; refine C4.out.mono ?_; rintro e w5 ⟨rfl, hb5, hx5⟩; have HB5 := Lib.hid hb5; have HX5 := Lib.hid hx5; clear C4 hb5 hx5)
    have p5 := P1.out.ext HX5.out
    obtain ⟨x1, x2, x3⟩ := p5.rules
    unfold WgCells at x1
    clear y1 y2 y3 p5
    have C5 := Lib.hid (f81_lay (w1 := w1) w5.drew w1.heap.size 32 32 32 g.fin (g.fin : Int) _ HB5.out.drew HX5.out.drew (Nat.le_refl _) (by rw [HZ.out.2.2.1]; omega) (by omega) (by omega) rfl)
    go_still_tail 7, (by kernel_rfl)
    go_wp2_with (go_at_call 81; refine C5.out.mono ?_; rintro e w6 ⟨rfl, hb6, hx6⟩; have HB6 := Lib.hid hb6; have HX6 := Lib.hid hx6; have C6 := Lib.hid (f81_lay (w1 := w1) w6 w1.heap.size 56 8 8 (g.turn + 1) ((g.turn : Int) + 1) _ hb6 hx6 (Nat.le_refl _) (by rw [HZ.out.2.2.2]; omega) (by omega) (by omega) (by simp)); clear C5 hb6 hx6)
    go_wp2_with (go_at_call 81; refine C6.out.mono ?_; rintro e w7 ⟨rfl, hb7, hx7⟩; have HB7 := Lib.hid hb7; have HX7 := Lib.hid hx7; obtain ⟨y1, y2, y3⟩ := (P1.out.ext hx7).rules; unfold WgCells at y1; clear C6 hb7 hx7)
    have hhead : headB (telH g k) = headB ⟨g.turn + 1, g.first + k, g.next, S, g.fin⟩ := by rw [HS.out]; rfl
    have hb8 := HB7.out
    rw [headB_lay ⟨g.turn + 1, g.first + k, g.next, S, g.fin⟩, ← hhead] at hb8
    have hi2 : (g.turn + 1) % 2 < (flD g.d).kept.length := by rw [flD_len]; omega
    have C82 := f82_up w7 dp ((g.turn + 1) % 2) _ (headB (telH g k)) (flD g.d) (HD1.out.ext HX7.out) (IsBytes.of_blk hb8 (headB_length _)) (headB_length _) hi2 HC.out.fl.up (by simp [flD])
    rw [(HC.out.fl.wr _ _).hitB, (HC.out.fl.wr _ _).hitDk, show (((g.turn + 1) % 2 : Nat) : Int) = ((g.turn : Int) + 1) % 2 by simp] at C82
    have C82 := Lib.hid C82
    clear hb8 hhead hi2
    go_wp2_with (go_at_call 82; refine C82.out.mono ?_; rintro e w8 ⟨rfl, hd8, hm8⟩; have C81 := f80_up w8 dp _ hd8 (HC.out.fl.wr _ _).up (HC.out.fl.wr _ _).hitB; rw [(HC.out.fl.wr _ _).flush] at C81; have C81 := Lib.hid C81; have HM8 := Lib.hid hm8; obtain ⟨x1, x2, x3⟩ := ((P1.out.ext HX7.out).mut hm8 (by simp)).rules; unfold WgCells at x1; clear C82 hd8 hm8 y1 y2 y3)
    go_wp2_with (go_at_call 80; refine C81.out.mono ?_; rintro e w9 ⟨rfl, hd9, hm9⟩; have HD9 := Lib.hid hd9; have M9 : Hid (Mut B [91, 93, 95] w w9) := Lib.hid ((((HM1.out.mono (T' := [91, 93, 95]) (by simp)).trans HX7.out.mut).trans (HM8.out.mono (T' := [91, 93, 95]) (by simp))).trans (hm9.mono (T' := [91, 93, 95]) (by simp))); have P9 := Lib.hid (B1.out.mut M9.out (by simp)); obtain ⟨y1, y2, y3⟩ := P9.out.rules; unfold WgCells at y1; clear C81 hd9 hm9 x1 x2 x3)
    go_loopg [110] k (fun m iv wr => ∃ j : Nat, j ≤ k ∧ m = k - j ∧ iv = .int .i64 j ∧ Blk wr p 97 #[.pointer (some ⟨dp, 0, none⟩), .bool g.dead, .int .u64 g.turn, .int .u64 g.first, .slice V g.recs.length vc, .slice (some ⟨bu, ou, none⟩) g.places.length uc, .int .i64 g.fin, .int .i64 (usedAt g j), .bool g.waits] ∧ Mut B [97] w9 wr)
    case atStart => exact ⟨0, by omega, by omega, rfl, by rw [usedAt_zero]; exact P9.out, Mut.rfl'⟩
    case round =>
      obtain ⟨j, hj, hgj, rfl, hbj, hmj⟩ := hrel
      have HG := Lib.hid hgj
      have HBJ := Lib.hid hbj
      have HMJ := Lib.hid hmj
      obtain ⟨x1, x2, x3⟩ := hbj.rules
      clear hgj hbj hmj y1 y2 y3
      by_cases hlt : j < k
      · obtain ⟨bv, ov, vv, rfl, hcv, hvv⟩ := rec_at (rowAt.of_own (own_mut (own_mut B4.out.row M9.out (by simp)) HMJ.out (by simp))) ((B4.out.each.ext (RecR.mut M9.out (by simp))).ext (RecR.mut HMJ.out (by simp))) (show j < g.recs.length by omega)
        obtain ⟨A2, c2, rfl, q1, q2, q3, q4⟩ := hvv.form
        have hjr : j < g.recs.length := by omega
        have hus := usedAt_succ B6.out hjr
        have huo := B6.out.used
        have hjb : g.recs[j].length ≤ big := by have := B6.out.rcs _ (List.getElem_mem hjr); rw [big_is]; omega
        have C58 := Lib.hid (f58_calls wr.drew g.recs[j].length hjb)
        have hwu : IntKind.i64.wrap ((usedAt g j : Int) - (secs g.recs[j].length : Int)) = (usedAt g (j + 1) : Int) := by
          have h9 := HRING.out
          rw [IntWalk.i64_in _ ⟨by omega, by omega⟩]; omega
        have hji : (j : Int) < (k : Int) := by omega
        clear hvv q4 hus huo hjb
        go_wp2
        refine wp_region_tail 10 (by kernel_rfl) (by kernel_rfl) ?_
        simp only [List.take_succ_cons, List.take_zero, List.drop_succ_cons, List.drop_zero]
        repeat (first | still_call (C58.out.mono fun e w' h => ⟨h.1, h.2.symm⟩) | still_step)
        refine wpStill_nil ?_
        go_wp2
        go_roundg (k - (j + 1))
        case measure => rw [HG.out]; omega
        case rel =>
          refine ⟨j + 1, by omega, rfl, by go_num, ?_, ?_⟩
          · exact (HBJ.out.set_ 7 (.int .i64 (usedAt g (j + 1)))).drew
          · exact (HMJ.out.trans ((Mut.rfl' (w := wr)).put HBJ.out (by simp) b2 7 none _)).drew
      · have hjk : j = k := by omega
        subst hjk
        obtain ⟨i1, hi1, -, hs1, -⟩ := info_parts Tryz.info25
        obtain ⟨i3, hi3, -, hs3, -⟩ := info_parts Tryz.info3
        have hjp : j ≤ g.places.length := by omega
        have SL4 := run_from 44 25 i1 Tryz.underlying44 hi1 hs1 V g.recs.length vc j hk
        have SL5 := run_from 53 3 i3 Tryz.underlying53 hi3 hs3 (some ⟨bu, ou, none⟩) g.places.length uc j hjp
        have N4 := Lib.hid (from_nil (k := j) HVN.out hvc)
        have N5 := Lib.hid (from_nil (k := j) HUN.out huc)
        have R4 := Lib.hid (row_from (B := B) (k := j) (rowAt.of_own (own_mut (own_mut B4.out.row M9.out (by simp)) HMJ.out (by simp))) (recs_len B4.out.each) hvc hk)
        have R5 := Lib.hid (row_from (B := B) (k := j) (rowAt.of_own (own_mut (own_mut B5.out M9.out (by simp)) HMJ.out (by simp))) (by simp) huc hjp)
        generalize hVV : (if vc = j then V else V.map (·.add (j * 1))) = V2 at *
        generalize hUU : (if uc = j then (some (⟨bu, ou, none⟩ : Addr)) else (some (⟨bu, ou, none⟩ : Addr)).map (·.add (j * 1))) = U2 at *
        clear hVV hUU
        have q1 := HBJ.out.set_ 2 (.int .u64 ((g.turn : Int) + 1))
        have q2 := q1.set_ 3 (.int .u64 ((g.first : Int) + (j : Int)))
        have m1 : Mut B [97] w9 _ := ((HMJ.out.trans ((Mut.rfl' (w := wr)).put HBJ.out (by simp) b2 2 none (.int .u64 ((g.turn : Int) + 1)))).trans ((Mut.rfl' (w := _)).put q1 (by simp) b2 3 none (.int .u64 ((g.first : Int) + (j : Int)))))
        have Q2 := Lib.hid (show Blk ((wr.setCell ⟨p, 2, none⟩ (.int .u64 ((g.turn : Int) + 1))).setCell ⟨p, 3, none⟩ (.int .u64 ((g.first : Int) + (j : Int)))) p 97 #[.pointer (some ⟨dp, 0, none⟩), .bool g.dead, .int .u64 ((g.turn : Int) + 1), .int .u64 ((g.first : Int) + (j : Int)), .slice V g.recs.length vc, .slice (some ⟨bu, ou, none⟩) g.places.length uc, .int .i64 g.fin, .int .i64 (usedAt g j), .bool g.waits] from q2)
        have M1 := Lib.hid m1
        have RR4 := R4.out.mut (((Mut.rfl' (w := wr)).put HBJ.out (T := [97]) (by simp) b2 2 none (.int .u64 ((g.turn : Int) + 1))).trans ((Mut.rfl' (w := _)).put q1 (by simp) b2 3 none (.int .u64 ((g.first : Int) + (j : Int))))) (by simp)
        have RR5 := R5.out.mut (((Mut.rfl' (w := wr)).put HBJ.out (T := [97]) (by simp) b2 2 none (.int .u64 ((g.turn : Int) + 1))).trans ((Mut.rfl' (w := _)).put q1 (by simp) b2 3 none (.int .u64 ((g.first : Int) + (j : Int))))) (by simp)
        have RR4 := Lib.hid RR4
        have RR5 := Lib.hid RR5
        clear q1 q2 m1
        go_wp2
        generalize hwx : (wr.setCell ⟨p, 2, none⟩ (.int .u64 ((g.turn : Int) + 1))).setCell ⟨p, 3, none⟩ (.int .u64 ((g.first : Int) + (j : Int))) = wx at *
        clear hwx x1 x2 x3
        obtain ⟨x1, x2, x3⟩ := Q2.out.rules
        have hbx : B ≤ wx.heap.size := Nat.le_trans hB (Nat.le_trans M9.out.size M1.out.size)
        have C59 := Lib.hid (f59_row (B := B) (e' := 25) wx.drew V2 (g.recs.length - j) (vc - j) (vs.drop j) (by rw [List.length_drop, recs_len B4.out.each]; omega) (RR4.out.ext Ext.rfl'.drew) (fun u hu => recs_one B4.out.each u (List.mem_of_mem_drop hu)) (by have := HRING.out; have := B6.out.few; have := B6.out.used; rw [big_is]; omega) N4.out)
        have c60 := fun wA (hx : Ext wx wA) => f60_row (B := B) (e' := 3) wA U2 (g.places.length - j) (uc - j) ((intsV g.places).drop j) (by simp) (RR5.out.ext hx) (fun u hu => intsV_one _ u (List.mem_of_mem_drop hu)) (by have := HRING.out; have := B6.out.few; have := B6.out.used; have := HPL.out; rw [big_is]; omega) N5.out
        have C60 := Lib.hid c60
        clear c60
        go_region_with (first | (go_at_call 59; refine C59.out.mono ?_; rintro e wA ⟨v1, rfl, hown1, hx1⟩; obtain ⟨V1, n1, rfl, -, -, -⟩ := own_form hown1; obtain ⟨y1, y2, y3⟩ := (Q2.out.ext ((Ext.rfl'.drew (w := wx)).trans hx1)).rules; have D60 := C60.out wA ((Ext.rfl'.drew (w := wx)).trans hx1); have D60 := Lib.hid D60; have O1 := Lib.hid hown1; have X1 := Lib.hid hx1; clear hown1 hx1 C59) | (go_at_call 60; refine D60.out.mono ?_; rintro e wB ⟨v2, rfl, hown2, hx2⟩; obtain ⟨V3, n2, rfl, -, -, -⟩ := own_form hown2; obtain ⟨y4, y5, y6⟩ := (Q2.out.ext (((Ext.rfl'.drew (w := wx)).trans X1.out).trans hx2)).rules; have O2 := Lib.hid hown2; have X2 := Lib.hid hx2; clear hown2 hx2 D60))
        all_goals
          have xB := ((Ext.rfl'.drew (w := wx)).trans X1.out).trans X2.out
          have mB : Mut B [91, 93, 95, 97] w wB := ((M9.out.mono (T' := [91, 93, 95, 97]) (by simp)).trans (M1.out.mono (T' := [91, 93, 95, 97]) (by simp))).trans xB.mut
          have mD : Mut B [97] w9 wB := M1.out.trans xB.mut
          have sA := X1.out.size
          have key := tell_done (rv := .slice V1 (g.recs.length - j) n1) (pv := .slice V3 (g.places.length - j) n2) (vs := vs) (Q2.out.ext xB) b2 (own_base (own_ext O1.out X2.out) (by simpa using hbx)) (B4.out.each.ext (RecR.mut mB (by simp))) (own_base O2.out (by simp at sA; omega)) (HD9.out.mut mD (by simp) (by simp) (by simp)) B6.out (by rw [huge_is]; exact ht) hk
          have K := Lib.hid key
          have MB := Lib.hid mB
          clear key mB mD xB y1 y2 y3 y4 y5 y6 x1 x2 x3
          go_wp2
          go_ret
          exact ⟨rfl, K.out.1, MB.out.trans (K.out.2.mono (by simp))⟩
  · have hSk : S = g.fin := by simp only [hS, List.getD_eq_getElem?_getD, List.getElem?_eq_none (Nat.le_of_not_lt hkl), Option.getD_none]
    subst hSk
    have hkd : decide (k < g.places.length) = false := decide_eq_false hkl
    have hki : ¬ ((k : Int) < g.places.length) := by omega
    clear hS
    go_enter Tryz.func51, Tryz.ntmps51
    go_wp2_with (first | (go_at_call 70; refine C70.out.mono ?_; rintro e w' ⟨rfl, rfl⟩; clear C70) | (go_at_call 80; refine C80.out.mono ?_; rintro e w1 ⟨rfl, hd1, hm1⟩; have p1 := B1.out.mut hm1 (by simp); obtain ⟨x1, x2, x3⟩ := p1.rules; unfold WgCells at x1; have HD1 := Lib.hid hd1; have HM1 := Lib.hid hm1; have P1 := Lib.hid p1; clear hd1 hm1 p1 C80 r1 r2 r3))
    have hfb : g.first + k < 18446744073709551616 := by omega
    have hw1 : IntKind.u64.wrap (k : Int) = k := IntWalk.u64_in _ ⟨by omega, by omega⟩
    have hw2 : IntKind.u64.wrap ((g.first : Int) + (k : Int)) = (g.first : Int) + k := IntWalk.u64_in _ ⟨by omega, by omega⟩
    have hfr : g.fin ≤ 65536 := by have := HRING.out; omega
    have hw4 : IntKind.u64.wrap (g.fin : Int) = g.fin := IntWalk.u64_in _ ⟨by omega, by omega⟩
    have L1 := Lib.hid (HL.out.disk HD1.out HM1.out (flD_len _) (by simp))
    have H1 := Lib.hid (show ({ g with d := flD g.d } : Wg).next = g.next from rfl)
    have hb5 := Blk.new w1 5 zc64
    have e64 : zc64 = (List.replicate 64 (Value.int .u8 0)).toArray := rfl
    rw [e64] at hb5
    have HB5 := Lib.hid hb5
    have C1 := Lib.hid (f81_lay (w1 := w1) (w1.alloc (.cells zc64 5)) w1.heap.size 0 64 64 (g.turn + 1) ((g.turn : Int) + 1) _ hb5 (Ext.rfl'.alloc _) (Nat.le_refl _) (by simp) (by omega) (by omega) (by simp))
    clear hb5 e64
    go_wp2_with (go_at_call 81; refine C1.out.mono ?_; rintro e w2 ⟨rfl, hb2, hx2⟩; have HB2 := Lib.hid hb2; have HX2 := Lib.hid hx2; clear C1 hb2 hx2)
    have p2 := P1.out.ext HX2.out
    obtain ⟨y1, y2, y3⟩ := p2.rules
    unfold WgCells at y1
    clear x1 x2 x3 p2
    have C2 := Lib.hid (f81_lay (w1 := w1) w2.drew w1.heap.size 8 56 56 (g.first + k) ((g.first : Int) + (k : Int)) _ HB2.out.drew HX2.out.drew (Nat.le_refl _) (by rw [spl_length] <;> simp [be8_length]) (by omega) hfb (by simp))
    go_still_tail 9, (by kernel_rfl)
    go_wp2_with (go_at_call 81; refine C2.out.mono ?_; rintro e w3 ⟨rfl, hb3, hx3⟩; have HB3 := Lib.hid hb3; have HX3 := Lib.hid hx3; clear C2 hb3 hx3)
    have z0 : (List.replicate 64 (Value.int .u8 0)).length = 64 := by simp
    have z1 := lay_len (off := 0) (v := g.turn + 1) z0 (by omega)
    have z2 := lay_len (off := 8) (v := g.first + k) z1 (by omega)
    have z3 := lay_len (off := 16) (v := g.next) z2 (by omega)
    have z4 := lay_len (off := 24) (v := g.fin) z3 (by omega)
    have z5 := lay_len (off := 32) (v := g.fin) z4 (by omega)
    have HZ := Lib.hid (And.intro z2 (And.intro z3 (And.intro z4 z5)))
    have hnb : g.next < 18446744073709551616 := by unfold Wg.next; omega
    have C44 : Hid (Calls Tryz.prog 44 #[.pointer (some ⟨p, 0, none⟩)] w3.drew fun e w' => e = .returned (.int .u64 g.next) ∧ w' = w3.drew.drew) := Lib.hid (f44_calls w3.drew p dp { g with d := flD g.d } (L1.out.ext HX3.out.drew))
    have C3 := Lib.hid (f81_lay (w1 := w1) w3.drew.drew w1.heap.size 16 48 48 g.next (g.next : Int) _ HB3.out.drew.drew HX3.out.drew.drew (Nat.le_refl _) (by rw [HZ.out.1]; omega) (by omega) hnb rfl)
    clear z0 z1 z2 z3 z4 z5
    go_region_with (first | (go_at_call 44; refine C44.out.mono ?_; rintro e w4 ⟨rfl, rfl⟩; clear C44) | (go_at_call 81; refine C3.out.mono ?_; rintro e w4 ⟨rfl, hb4, hx4⟩; have HB4 := Lib.hid hb4; have HX4 := Lib.hid hx4; clear C3 hb4 hx4))
    have C4 := Lib.hid (f81_lay (w1 := w1) w4 w1.heap.size 24 40 40 g.fin (g.fin : Int) _ HB4.out HX4.out (Nat.le_refl _) (by rw [HZ.out.2.1]; omega) (by omega) (by omega) rfl)
    go_wp2_with (go_at_call 81; refine C4.out.mono ?_; rintro e w5 ⟨rfl, hb5, hx5⟩; have HB5 := Lib.hid hb5; have HX5 := Lib.hid hx5; clear C4 hb5 hx5)
    have p5 := P1.out.ext HX5.out
    obtain ⟨x1, x2, x3⟩ := p5.rules
    unfold WgCells at x1
    clear y1 y2 y3 p5
    have C5 := Lib.hid (f81_lay (w1 := w1) w5.drew w1.heap.size 32 32 32 g.fin (g.fin : Int) _ HB5.out.drew HX5.out.drew (Nat.le_refl _) (by rw [HZ.out.2.2.1]; omega) (by omega) (by omega) rfl)
    go_still_tail 7, (by kernel_rfl)
    go_wp2_with (go_at_call 81; refine C5.out.mono ?_; rintro e w6 ⟨rfl, hb6, hx6⟩; have HB6 := Lib.hid hb6; have HX6 := Lib.hid hx6; have C6 := Lib.hid (f81_lay (w1 := w1) w6 w1.heap.size 56 8 8 (g.turn + 1) ((g.turn : Int) + 1) _ hb6 hx6 (Nat.le_refl _) (by rw [HZ.out.2.2.2]; omega) (by omega) (by omega) (by simp)); clear C5 hb6 hx6)
    go_wp2_with (go_at_call 81; refine C6.out.mono ?_; rintro e w7 ⟨rfl, hb7, hx7⟩; have HB7 := Lib.hid hb7; have HX7 := Lib.hid hx7; obtain ⟨y1, y2, y3⟩ := (P1.out.ext hx7).rules; unfold WgCells at y1; clear C6 hb7 hx7)
    have hhead : headB (telH g k) = headB ⟨g.turn + 1, g.first + k, g.next, g.fin, g.fin⟩ := by simp only [telH]; rw [← HS.out]
    have hb8 := HB7.out
    rw [headB_lay ⟨g.turn + 1, g.first + k, g.next, g.fin, g.fin⟩, ← hhead] at hb8
    have hi2 : (g.turn + 1) % 2 < (flD g.d).kept.length := by rw [flD_len]; omega
    have C82 := f82_up w7 dp ((g.turn + 1) % 2) _ (headB (telH g k)) (flD g.d) (HD1.out.ext HX7.out) (IsBytes.of_blk hb8 (headB_length _)) (headB_length _) hi2 HC.out.fl.up (by simp [flD])
    rw [(HC.out.fl.wr _ _).hitB, (HC.out.fl.wr _ _).hitDk, show (((g.turn + 1) % 2 : Nat) : Int) = ((g.turn : Int) + 1) % 2 by simp] at C82
    have C82 := Lib.hid C82
    clear hb8 hhead hi2
    go_wp2_with (go_at_call 82; refine C82.out.mono ?_; rintro e w8 ⟨rfl, hd8, hm8⟩; have C81 := f80_up w8 dp _ hd8 (HC.out.fl.wr _ _).up (HC.out.fl.wr _ _).hitB; rw [(HC.out.fl.wr _ _).flush] at C81; have C81 := Lib.hid C81; have HM8 := Lib.hid hm8; obtain ⟨x1, x2, x3⟩ := ((P1.out.ext HX7.out).mut hm8 (by simp)).rules; unfold WgCells at x1; clear C82 hd8 hm8 y1 y2 y3)
    go_wp2_with (go_at_call 80; refine C81.out.mono ?_; rintro e w9 ⟨rfl, hd9, hm9⟩; have HD9 := Lib.hid hd9; have M9 : Hid (Mut B [91, 93, 95] w w9) := Lib.hid ((((HM1.out.mono (T' := [91, 93, 95]) (by simp)).trans HX7.out.mut).trans (HM8.out.mono (T' := [91, 93, 95]) (by simp))).trans (hm9.mono (T' := [91, 93, 95]) (by simp))); have P9 := Lib.hid (B1.out.mut M9.out (by simp)); obtain ⟨y1, y2, y3⟩ := P9.out.rules; unfold WgCells at y1; clear C81 hd9 hm9 x1 x2 x3)
    go_loopg [110] k (fun m iv wr => ∃ j : Nat, j ≤ k ∧ m = k - j ∧ iv = .int .i64 j ∧ Blk wr p 97 #[.pointer (some ⟨dp, 0, none⟩), .bool g.dead, .int .u64 g.turn, .int .u64 g.first, .slice V g.recs.length vc, .slice U g.places.length uc, .int .i64 g.fin, .int .i64 (usedAt g j), .bool g.waits] ∧ Mut B [97] w9 wr)
    case atStart => exact ⟨0, by omega, by omega, rfl, by rw [usedAt_zero]; exact P9.out, Mut.rfl'⟩
    case round =>
      obtain ⟨j, hj, hgj, rfl, hbj, hmj⟩ := hrel
      have HG := Lib.hid hgj
      have HBJ := Lib.hid hbj
      have HMJ := Lib.hid hmj
      obtain ⟨x1, x2, x3⟩ := hbj.rules
      clear hgj hbj hmj y1 y2 y3
      by_cases hlt : j < k
      · obtain ⟨bv, ov, vv, rfl, hcv, hvv⟩ := rec_at (rowAt.of_own (own_mut (own_mut B4.out.row M9.out (by simp)) HMJ.out (by simp))) ((B4.out.each.ext (RecR.mut M9.out (by simp))).ext (RecR.mut HMJ.out (by simp))) (show j < g.recs.length by omega)
        obtain ⟨A2, c2, rfl, q1, q2, q3, q4⟩ := hvv.form
        have hjr : j < g.recs.length := by omega
        have hus := usedAt_succ B6.out hjr
        have huo := B6.out.used
        have hjb : g.recs[j].length ≤ big := by have := B6.out.rcs _ (List.getElem_mem hjr); rw [big_is]; omega
        have C58 := Lib.hid (f58_calls wr.drew g.recs[j].length hjb)
        have hwu : IntKind.i64.wrap ((usedAt g j : Int) - (secs g.recs[j].length : Int)) = (usedAt g (j + 1) : Int) := by
          have h9 := HRING.out
          rw [IntWalk.i64_in _ ⟨by omega, by omega⟩]; omega
        have hji : (j : Int) < (k : Int) := by omega
        clear hvv q4 hus huo hjb
        go_wp2
        refine wp_region_tail 10 (by kernel_rfl) (by kernel_rfl) ?_
        simp only [List.take_succ_cons, List.take_zero, List.drop_succ_cons, List.drop_zero]
        repeat (first | still_call (C58.out.mono fun e w' h => ⟨h.1, h.2.symm⟩) | still_step)
        refine wpStill_nil ?_
        go_wp2
        go_roundg (k - (j + 1))
        case measure => rw [HG.out]; omega
        case rel =>
          refine ⟨j + 1, by omega, rfl, by go_num, ?_, ?_⟩
          · exact (HBJ.out.set_ 7 (.int .i64 (usedAt g (j + 1)))).drew
          · exact (HMJ.out.trans ((Mut.rfl' (w := wr)).put HBJ.out (by simp) b2 7 none _)).drew
      · have hjk : j = k := by omega
        subst hjk
        obtain ⟨i1, hi1, -, hs1, -⟩ := info_parts Tryz.info25
        obtain ⟨i3, hi3, -, hs3, -⟩ := info_parts Tryz.info3
        have hjp : j ≤ g.places.length := by have := HPL.out; omega
        have SL4 := run_from 44 25 i1 Tryz.underlying44 hi1 hs1 V g.recs.length vc j hk
        have SL5 := run_from 53 3 i3 Tryz.underlying53 hi3 hs3 U g.places.length uc j hjp
        have N4 := Lib.hid (from_nil (k := j) HVN.out hvc)
        have N5 := Lib.hid (from_nil (k := j) HUN.out huc)
        have R4 := Lib.hid (row_from (B := B) (k := j) (rowAt.of_own (own_mut (own_mut B4.out.row M9.out (by simp)) HMJ.out (by simp))) (recs_len B4.out.each) hvc hk)
        have R5 := Lib.hid (row_from (B := B) (k := j) (rowAt.of_own (own_mut (own_mut B5.out M9.out (by simp)) HMJ.out (by simp))) (by simp) huc hjp)
        generalize hVV : (if vc = j then V else V.map (·.add (j * 1))) = V2 at *
        generalize hUU : (if uc = j then U else U.map (·.add (j * 1))) = U2 at *
        clear hVV hUU
        have q1 := HBJ.out.set_ 2 (.int .u64 ((g.turn : Int) + 1))
        have q2 := q1.set_ 3 (.int .u64 ((g.first : Int) + (j : Int)))
        have m1 : Mut B [97] w9 _ := ((HMJ.out.trans ((Mut.rfl' (w := wr)).put HBJ.out (by simp) b2 2 none (.int .u64 ((g.turn : Int) + 1)))).trans ((Mut.rfl' (w := _)).put q1 (by simp) b2 3 none (.int .u64 ((g.first : Int) + (j : Int)))))
        have Q2 := Lib.hid (show Blk ((wr.setCell ⟨p, 2, none⟩ (.int .u64 ((g.turn : Int) + 1))).setCell ⟨p, 3, none⟩ (.int .u64 ((g.first : Int) + (j : Int)))) p 97 #[.pointer (some ⟨dp, 0, none⟩), .bool g.dead, .int .u64 ((g.turn : Int) + 1), .int .u64 ((g.first : Int) + (j : Int)), .slice V g.recs.length vc, .slice U g.places.length uc, .int .i64 g.fin, .int .i64 (usedAt g j), .bool g.waits] from q2)
        have M1 := Lib.hid m1
        have RR4 := R4.out.mut (((Mut.rfl' (w := wr)).put HBJ.out (T := [97]) (by simp) b2 2 none (.int .u64 ((g.turn : Int) + 1))).trans ((Mut.rfl' (w := _)).put q1 (by simp) b2 3 none (.int .u64 ((g.first : Int) + (j : Int))))) (by simp)
        have RR5 := R5.out.mut (((Mut.rfl' (w := wr)).put HBJ.out (T := [97]) (by simp) b2 2 none (.int .u64 ((g.turn : Int) + 1))).trans ((Mut.rfl' (w := _)).put q1 (by simp) b2 3 none (.int .u64 ((g.first : Int) + (j : Int))))) (by simp)
        have RR4 := Lib.hid RR4
        have RR5 := Lib.hid RR5
        clear q1 q2 m1
        go_wp2
        generalize hwx : (wr.setCell ⟨p, 2, none⟩ (.int .u64 ((g.turn : Int) + 1))).setCell ⟨p, 3, none⟩ (.int .u64 ((g.first : Int) + (j : Int))) = wx at *
        clear hwx x1 x2 x3
        obtain ⟨x1, x2, x3⟩ := Q2.out.rules
        have hbx : B ≤ wx.heap.size := Nat.le_trans hB (Nat.le_trans M9.out.size M1.out.size)
        have C59 := Lib.hid (f59_row (B := B) (e' := 25) wx.drew V2 (g.recs.length - j) (vc - j) (vs.drop j) (by rw [List.length_drop, recs_len B4.out.each]; omega) (RR4.out.ext Ext.rfl'.drew) (fun u hu => recs_one B4.out.each u (List.mem_of_mem_drop hu)) (by have := HRING.out; have := B6.out.few; have := B6.out.used; rw [big_is]; omega) N4.out)
        have c60 := fun wA (hx : Ext wx wA) => f60_row (B := B) (e' := 3) wA U2 (g.places.length - j) (uc - j) ((intsV g.places).drop j) (by simp) (RR5.out.ext hx) (fun u hu => intsV_one _ u (List.mem_of_mem_drop hu)) (by have := HRING.out; have := B6.out.few; have := B6.out.used; have := HPL.out; rw [big_is]; omega) N5.out
        have C60 := Lib.hid c60
        clear c60
        go_region_with (first | (go_at_call 59; refine C59.out.mono ?_; rintro e wA ⟨v1, rfl, hown1, hx1⟩; obtain ⟨V1, n1, rfl, -, -, -⟩ := own_form hown1; obtain ⟨y1, y2, y3⟩ := (Q2.out.ext ((Ext.rfl'.drew (w := wx)).trans hx1)).rules; have D60 := C60.out wA ((Ext.rfl'.drew (w := wx)).trans hx1); have D60 := Lib.hid D60; have O1 := Lib.hid hown1; have X1 := Lib.hid hx1; clear hown1 hx1 C59) | (go_at_call 60; refine D60.out.mono ?_; rintro e wB ⟨v2, rfl, hown2, hx2⟩; obtain ⟨V3, n2, rfl, -, -, -⟩ := own_form hown2; obtain ⟨y4, y5, y6⟩ := (Q2.out.ext (((Ext.rfl'.drew (w := wx)).trans X1.out).trans hx2)).rules; have O2 := Lib.hid hown2; have X2 := Lib.hid hx2; clear hown2 hx2 D60))
        all_goals
          have xB := ((Ext.rfl'.drew (w := wx)).trans X1.out).trans X2.out
          have mB : Mut B [91, 93, 95, 97] w wB := ((M9.out.mono (T' := [91, 93, 95, 97]) (by simp)).trans (M1.out.mono (T' := [91, 93, 95, 97]) (by simp))).trans xB.mut
          have mD : Mut B [97] w9 wB := M1.out.trans xB.mut
          have sA := X1.out.size
          have key := tell_done (rv := .slice V1 (g.recs.length - j) n1) (pv := .slice V3 (g.places.length - j) n2) (vs := vs) (Q2.out.ext xB) b2 (own_base (own_ext O1.out X2.out) (by simpa using hbx)) (B4.out.each.ext (RecR.mut mB (by simp))) (own_base O2.out (by simp at sA; omega)) (HD9.out.mut mD (by simp) (by simp) (by simp)) B6.out (by rw [huge_is]; exact ht) hk
          have K := Lib.hid key
          have MB := Lib.hid mB
          clear key mB mD xB y1 y2 y3 y4 y5 y6 x1 x2 x3
          go_wp2
          go_ret
          exact ⟨rfl, K.out.1, MB.out.trans (K.out.2.mono (by simp))⟩
end Go.Proofs.YtpjodgoljocnlaaGreatDoor
