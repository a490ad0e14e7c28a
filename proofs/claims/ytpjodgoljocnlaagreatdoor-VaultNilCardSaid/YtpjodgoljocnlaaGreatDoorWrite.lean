/- Disk.Write. -/
import Derived.Test.YtpjodgoljocnlaaGreatDoorDisk
namespace Go.Proofs.YtpjodgoljocnlaaGreatDoor
open Go Go.RowKit
variable {B : Nat}
def writeDk (d : Dk) (i : Nat) (bs : List UInt8) : Dk := { d with wait := d.wait ++ [(i, bs)] }
/-- a write's cells -/
def wrV (n : Int) (bs : List UInt8) : Array Value := (.int .i64 n :: bytesV bs).toArray
theorem wrV_size {n : Int} {bs : List UInt8} (h : bs.length = 64) : (wrV n bs).size = 65 := by simp [wrV, h]
theorem fold_set (off : Nat) : ∀ (l : List Value) (k : Nat) (A : Array Value), off + k + l.length ≤ A.size →
    ((l.zipIdx k).foldl (fun cs x => cs.setIfInBounds (off + x.2) x.1) A).toList = A.toList.take (off + k) ++ l ++ A.toList.drop (off + k + l.length)
  | [], k, A, _ => by simp
  | v :: l, k, A, h => by
    simp only [List.length_cons] at h
    rw [List.zipIdx_cons, List.foldl_cons, fold_set off l (k + 1) _ (by simp; omega)]
    simp only [Array.toList_setIfInBounds, List.length_cons]
    have hk : off + k < A.toList.length := by simp; omega
    rw [show off + (k + 1) = off + k + 1 by omega, List.take_set, List.drop_set_of_lt (by omega), List.take_succ_eq_append_getElem hk]
    rw [List.set_append_right _ _ (by rw [List.length_take]; omega), List.length_take, Nat.min_eq_left (by omega), Nat.sub_self]
    simp only [List.set_cons_zero, List.append_assoc, List.cons_append, List.nil_append]
    congr 4
    omega
theorem zc95_size : Tryz.zeroCells95.size = 65 := by kernel_rfl
theorem fold95 (n : Int) (bs : List UInt8) (hl : bs.length = 64) : List.foldl (fun cs x => cs.setIfInBounds (1 + x.snd) x.fst) (Tryz.zeroCells95.setIfInBounds 0 (.int .i64 n)) (bytesV bs).zipIdx = wrV n bs := by
  apply Array.toList_inj.1
  have h := fold_set 1 (bytesV bs) 0 (Tryz.zeroCells95.setIfInBounds 0 (.int .i64 n)) (by simp [zc95_size, hl])
  rw [h]
  have hs : Tryz.zeroCells95.toList.length = 65 := by rw [Array.length_toList]; exact zc95_size
  have hd : (Tryz.zeroCells95.setIfInBounds 0 (.int .i64 n)).toList.drop (1 + 0 + (bytesV bs).length) = [] := by
    apply List.drop_eq_nil_of_le
    simp [hl, zc95_size]
  rw [hd]
  have ht : (Tryz.zeroCells95.setIfInBounds 0 (.int .i64 n)).toList.take (1 + 0) = [.int .i64 n] := by
    cases hz : Tryz.zeroCells95.toList with
    | nil => rw [hz] at hs; simp at hs
    | cons a l => simp [hz]
  rw [ht]
  simp [wrV]
theorem Tryz.info95 : ∃ i z, Tryz.prog.info? 95 = some i ∧ i.zero = some z ∧ i.size = 65 ∧ i.bytes = 72 ∧ z.cells.size = 65 := by
  obtain ⟨i, hi, hz⟩ := Option.map_eq_some_iff.1 (show (Tryz.prog.info? 95).map (fun i => (i.zero.map (·.cells.size), i.size, i.bytes)) = some (some 65, 65, 72) by kernel_rfl)
  simp only [Prod.mk.injEq] at hz
  obtain ⟨z, h1, h2⟩ := Option.map_eq_some_iff.1 hz.1
  exact ⟨i, z, hi, h1, hz.2.1, hz.2.2, h2⟩
def bs89 (v : Value) : Sem Next := do pure (.value (← Instr.buildSlice 89 1 #[(0, v)]))
theorem exec_bs89 (ρ : Operand → Value) (dst : Option Tmp) (x : Operand) (ty : TypeId) (pos : String) (af : Array Edge) (g : Option (Nat × Bool)) (w : World) :
    (execOp ρ ⟨dst, .buildSlice 89 1 #[(0, x)], ty, pos, af, g⟩).run Tryz.prog w = (bs89 (ρ x)).run Tryz.prog w := by simp [execOp, bs89]
theorem run_bs89 (cs : Array Value) (hl : cs.size = 65) (w : World) : (bs89 (.agg cs)).run Tryz.prog w = .ok (.value (.slice (some ⟨w.heap.size, 0, none⟩) 1 1)) (w.alloc (.cells cs 95)) := by
  obtain ⟨i, z, hi, hz, hs, hb, hzs⟩ := Tryz.info95
  have hf : ∀ A : Array Value, A.size = 65 → Instr.fill (fun i => some (i * 65, 65)) A [(0, .agg cs)] = some cs := by
    intro A hA
    have h := fold_set 0 cs.toList 0 A (by simp [hl, hA])
    have h2 : cs.zipIdx.foldl (fun c x => c.setIfInBounds (0 * 65 + x.2) x.1) A = cs := by
      apply Array.toList_inj.1
      rw [← Array.foldl_toList, Array.toList_zipIdx]
      simp only [Nat.zero_mul]
      rw [h]
      simp [hl, hA]
    simp only [Nat.zero_mul, Nat.zero_add] at h2
    have h3 : Array.foldl (fun cs x => cs.setIfInBounds x.snd x.fst) A cs.zipIdx 0 65 = cs := by
      have e : cs.zipIdx.size = 65 := by simp [hl]
      rw [← e]; exact h2
    simp [Instr.fill, Value.cells, hl, hA, h3]
  simp [bs89, Instr.buildSlice, run_underlying Tryz.underlying89, sizeOf, zeroValue, typeInfo, hi, hz, hs, hf, newRow, newObj]
  rfl
theorem run_bs89' (n : Int) (bs : List UInt8) (hl : bs.length = 64) (w : World) : (bs89 (.agg (List.foldl (fun cs x => cs.setIfInBounds (1 + x.snd) x.fst) (Tryz.zeroCells95.setIfInBounds 0 (.int .i64 n)) (bytesV bs).zipIdx))).run Tryz.prog w = .ok (.value (.slice (some ⟨w.heap.size, 0, none⟩) 1 1)) (w.alloc (.cells (wrV n bs) 95)) := by
  rw [fold95 n bs hl, run_bs89 _ (wrV_size hl)]
def ld93 (v : Value) : Sem Next := do pure (.value (← Instr.loadAt 93 v))
theorem exec_ld93 (ρ : Operand → Value) (dst : Option Tmp) (x : Operand) (ty : TypeId) (pos : String) (af : Array Edge) (g : Option (Nat × Bool)) (w : World) :
    (execOp ρ ⟨dst, .load 93 x, ty, pos, af, g⟩).run Tryz.prog w = (ld93 (ρ x)).run Tryz.prog w := by simp [execOp, ld93]
theorem run_ld93 {w : World} {b o : Nat} {cs : List Value} (h : w.rangeAt b o cs) (hl : cs.length = 64) : (ld93 (.pointer (some ⟨b, o, none⟩))).run Tryz.prog w = .ok (.value (.agg cs.toArray)) w := by
  have h1 := run_loadAt_mid (P := Tryz.prog) w b o 93 cs (.array 64 5) h Tryz.underlying93 rfl (by rw [hl]; kernel_rfl)
  simp [ld93, h1]
theorem run_arr93 (a : Option Addr) (n c : Nat) (hn : 64 ≤ n) (w : World) : (Instr.arrayAt 93 (.slice a n c)).run Tryz.prog w = .ok (.pointer a) w := by
  simp [Instr.arrayAt, run_underlying Tryz.underlying93, show ¬ n < 64 by omega]
theorem writeCells_append (a b : List (Nat × List UInt8)) : writeCells (a ++ b) = writeCells a ++ writeCells b := by simp [writeCells]
/-- behind the append and the store -/
theorem write_disk {w w1 : World} {p i kb V1c : Nat} {d : Dk} {bs : List UInt8} {V : Option Addr} {vc : Nat} {V1 : Option Addr} {W : World} (b1 : Blk w p 91 #[.slice (some ⟨kb, 0, none⟩) d.kept.length d.kept.length, .slice V d.wait.length vc, .bool d.down, .int .i64 d.armed]) (b2 : B ≤ p) (b3 : B ≤ kb)
    (b4 : Blk w kb 93 (bytesV d.kept.flatten).toArray) (b6 : d.Ok) (hi : i < d.kept.length) (hl : bs.length = 64) (hx : Ext w W) (own : W.ownsRow B 95 65 (.slice V d.wait.length vc) d.wait.length (writeCells d.wait))
    (own1 : w1.ownsRow B 95 65 (.slice V1 (d.wait.length + 1) V1c) (d.wait.length + 1) (writeCells d.wait ++ (.int .i64 (i : Int) :: bytesV bs))) (hg : Grew W w1 (Value.slice V d.wait.length vc).ownBlock) :
    DiskAt B (w1.setCell ⟨p, 1, none⟩ (.slice V1 (d.wait.length + 1) V1c)) p (writeDk d i bs) ∧ Mut B [91, 95] w (w1.setCell ⟨p, 1, none⟩ (.slice V1 (d.wait.length + 1) V1c)) := by
  have m1 : Mut B [95] w w1 := Mut.grown hx.mut own hg (by simp) (Nat.le_refl _)
  have m2 : Mut B [91] w1 (w1.setCell ⟨p, 1, none⟩ (.slice V1 (d.wait.length + 1) V1c)) := Mut.rfl'.put (b1.mut m1 (by simp)) (by simp) b2 1 none _
  have m3 : Mut B [91, 95] w (w1.setCell ⟨p, 1, none⟩ (.slice V1 (d.wait.length + 1) V1c)) := (m1.mono (by simp)).trans (m2.mono (by simp))
  refine ⟨⟨kb, .slice V1 (d.wait.length + 1) V1c, ?_, b2, b3, ?_, ?_, ?_⟩, m3⟩
  · simpa [writeDk] using (b1.mut m1 (by simp)).set_ 1 (.slice V1 (d.wait.length + 1) V1c)
  · exact b4.mut m3 (by simp)
  · have := own_mut own1 m2 (by simp)
    simpa [writeDk, writeCells_append, writeCells] using this
  · refine ⟨b6.lo, b6.hi, b6.sec, fun x hx => ?_, b6.arm⟩
    simp only [writeDk, List.mem_append, List.mem_singleton] at hx
    rcases hx with hx | rfl
    · exact b6.wt x hx
    · exact ⟨hi, hl⟩
attribute [local go_sem ↓] exec_ld93 exec_bs89
attribute [local go_sem] run_bs89'
set_option maxRecDepth 100000 in
set_option maxHeartbeats 4000000 in
theorem f82_up (w : World) (p i : Nat) (v : Value) (bs : List UInt8) (d : Dk) (h : DiskAt B w p d) (hv : IsBytes B w v bs) (hl : bs.length = 64) (hi : i < d.kept.length) (hd : d.down = false) (hw : d.wait.length < 1048576) :
    Calls Tryz.prog 82 #[.pointer (some ⟨p, 0, none⟩), .int .i64 i, v] w fun e w' => e = .returned (.int .i64 (if hitB (writeDk d i bs) then 3 else 0)) ∧ DiskAt B w' p (hitDk (writeDk d i bs)) ∧ Mut B [91, 95] w w' := by
  obtain ⟨i0, z0, hi0, hz0, hz1, hz2, hz3⟩ := Tryz.info95
  obtain ⟨kb, wv, b1, b2, b3, b4, b5, b6⟩ := h.form
  obtain ⟨A, c, rfl, q1, q2, q3, q4⟩ := hv.form
  obtain ⟨bb, oo, rfl, q5, q6⟩ := q4 (by intro h; have := congrArg List.length h; rw [bytesV_length, hl] at this; simp at this)
  obtain ⟨V, vc, hV, -, -, -⟩ := own_form b5
  subst hV
  obtain ⟨r1, r2, r3⟩ := b1.rules
  have hd0 : upErr d = 0 := by simp [upErr, hd]
  have c1 := fun wx (hx : Ext w wx) => f75_calls wx p d (h.ext hx)
  rw [hd0] at c1
  have C1 := Lib.hid c1
  have hlen : decide (d.kept.length ≤ i) = false := decide_eq_false (by omega)
  have hneg : decide ((i : Int) < 0) = false := decide_eq_false (by omega)
  have hl64 : ((bs.length : Int) != 64) = false := by simp [hl]
  have hrg : w.rangeAt bb oo (bytesV bs) := q6
  have har := run_arr93 (some ⟨bb, oo, none⟩) 64 c (by omega)
  have HL := Lib.hid hl
  have H := Lib.hid h
  have B1 := Lib.hid b1
  have B4 := Lib.hid b4
  have B5 := Lib.hid b5
  have Q6 := Lib.hid q6
  clear c1 h b1 b4 b5 q6 q4 hd hv hd0
  go_enter Tryz.func82, Tryz.ntmps82
  go_wp2_with (first | (go_at_call 75; refine (C1.out _ ?_).mono ?_; rotate_left; rintro e w' ⟨rfl, rfl⟩) | (go_at_call 76; refine (f76_errno _ _).mono ?_; rintro e w' ⟨rfl, rfl⟩))
  rotate_left
  · exact Ext.rfl'
  have hbb : bb < w.heap.size := World.block_lt_of_cell? w _ (Q6.out 0 (.int .u8 (bs[0]'(by have := HL.out; omega)).toNat) (by rw [bytesV_get (by have := HL.out; omega)]))
  have hu93 : Tryz.prog.underlying 93 = some (.array 64 5) := Tryz.underlying93
  have hi93 : (Tryz.prog.info? 93).map (·.size) = some (bytesV bs).length := by rw [bytesV_length, HL.out]; kernel_rfl
  have own1 := (B5.out)
  have O1 := Lib.hid own1
  clear own1
  have N0 := Lib.hid (own_ext O1.out ((Ext.rfl'.alloc (.cells (wrV (i : Int) bs) 95)).drew))
  have N1 := Lib.hid (show rowAt B 95 (w.alloc (.cells (wrV (i : Int) bs) 95)).drew (some ⟨w.heap.size, 0, none⟩) (.int .i64 (i : Int) :: bytesV bs) from row_new w (.int .i64 (i : Int) :: bytesV bs))
  have N2 := Lib.hid (show (Value.int .i64 (i : Int) :: bytesV bs).length = 1 * 65 by simp [hl])
  have N3 := Lib.hid (show ∀ u ∈ Value.int .i64 (i : Int) :: bytesV bs, u.oneCell' = true from fun u hu => by
    rcases List.mem_cons.1 hu with rfl | hu
    · rfl
    · exact bytesV_one _ u hu)
  have N4 := Lib.hid (show d.wait.length + 1 ≤ maxLen by simp only [maxLen]; omega)
  have N5 := Lib.hid (show (d.wait.length + 1) * 72 ≤ 140737488355328 by omega)
  have N6 := Lib.hid (show B ≤ (w.alloc (.cells (wrV (i : Int) bs) 95)).drew.heap.size by simp; omega)
  have hld := run_ld93 ((World.rangeAt_drew _ _ _ _).2 hrg) (by simp [hl])
  go_region_law (
    (refine step_append (B := B) (e' := 95) _ (by rfl) (.tmp 35) (.tmp 41) 89 (by rfl) B 95 i0 z0 65 72 Tryz.underlying89 hi0 hz0 hz1 hz2 hz3 (by omega) (.slice V d.wait.length vc) d.wait.length (writeCells d.wait) (by rfl) N0.out (some ⟨w.heap.size, 0, none⟩) 1 1 (.int .i64 i :: bytesV bs) (by rfl) N2.out N1.out N3.out N4.out N5.out N6.out ?_; intro v1 w1 hown1 hg1 ha1; obtain ⟨V1, vc1, rfl, -, -, -⟩ := own_form hown1; obtain ⟨x1, x2, x3⟩ := (B1.out.mut (Mut.grown ((Mut.rfl'.alloc _).drew) N0.out hg1 (by simp) (Nat.le_refl _) : Mut B [95] w w1) (by simp)).rules))
  all_goals
    have hW := write_disk B1.out b2 b3 B4.out b6 hi HL.out ((Ext.rfl'.alloc _).drew) N0.out hown1 hg1
    obtain ⟨hd2, hm2⟩ := hW
    have HD2 := Lib.hid hd2
    have HM2 := Lib.hid hm2
    have c3 := f101_calls _ _ _ hd2
    have C3 := Lib.hid c3
    clear hd2 hm2 hown1 hg1 ha1 x1 x2 x3 c3
    go_wp2_with (go_at_call 101; refine C3.out.mono ?_; rintro e w3 ⟨rfl, hd3, hm3⟩)
    all_goals (go_ret; exact ⟨rfl, hd3, HM2.out.trans (hm3.mono (by simp))⟩)
end Go.Proofs.YtpjodgoljocnlaaGreatDoor
