/- awake: a vault that is made, put into, and read. -/
import Derived.Test.YtpjodgoljocnlaaGreatDoorAwk
import Derived.Test.YtpjodgoljocnlaaGreatDoorRound
import Derived.Lib.SlBytesConst
namespace Go.Proofs.YtpjodgoljocnlaaGreatDoor
open Go Go.RowKit
variable {B e' : Nat}
theorem Mut.old {T : List Nat} {w w' : World} (h : Mut w.heap.size T w w') : Ext w w' := ⟨h.os, h.tape, h.output, h.size, fun b hb => h.block b hb (.inl hb)⟩
def lg1V (D E : Option Addr) : Value := .agg #[.int .u64 2, .int .i64 1, .int .u64 0, .int .u64 0, .slice D 0 0, .slice E 1 1]
theorem heap_alloc_any (w : World) (o : Obj) : (w.alloc o).heap[w.heap.size]? = some o := by
  show (w.heap.push o)[w.heap.size]? = _
  simp
theorem lg1_eq : lgB lg1 lg1 = true := by decide +kernel
theorem row_newF (w : World) (cs : List Value) (fr : Nat × Nat) : rowAt B e' (w.alloc (.cells cs.toArray e' fr)) (some ⟨w.heap.size, 0, none⟩) cs := fun _ =>
  ⟨w.heap.size, 0, rfl, .inr ⟨_, _, heap_alloc_any w _⟩, fun i v hi => by
    have h := World.cell?_alloc_mark w cs.toArray e' fr i
    rw [Nat.zero_add, h]; simpa using hi⟩
def w1A (w : World) : World := w.alloc (.cells #[.int .u8 120] 5 (1, 2))
def w2A (w : World) : World := (w1A w).alloc (.cells #[.int .u64 1, .int .u64 1, .slice (some ⟨w.heap.size, 0, none⟩) 1 1] 50)
theorem w1A_size (w : World) : (w1A w).heap.size = w.heap.size + 1 := by simp [w1A]
theorem lg1_lies (w : World) : IsLog B (w2A w) (lg1V none (some ⟨w.heap.size + 1, 0, none⟩)) lg1 := by
  have hb : IsBytes B (w2A w) (.slice (some ⟨w.heap.size, 0, none⟩) 1 1) [120] :=
    ⟨some ⟨w.heap.size, 0, none⟩, 1, rfl, Nat.le_refl _, by simp [maxLen], by simp, (row_newF (B := B) (e' := 5) w [.int .u8 120] (1, 2)).ext (Ext.rfl'.alloc _)⟩
  have hr : rowAt B 50 (w2A w) (some ⟨w.heap.size + 1, 0, none⟩) [.int .u64 1, .int .u64 1, .slice (some ⟨w.heap.size, 0, none⟩) 1 1] := by
    have h := row_new (B := B) (e := 50) (w1A w) [.int .u64 1, .int .u64 1, .slice (some ⟨w.heap.size, 0, none⟩) 1 1]
    rw [w1A_size] at h
    exact h
  refine ⟨.slice none 0 0, .slice (some ⟨w.heap.size + 1, 0, none⟩) 1 1, rfl, IsBytes.nil _, ?_, ⟨by simp [lg1], by simp [lg1], by simp [lg1], by simp [lg1], by simp [lg1, e1]⟩⟩
  exact ⟨some ⟨w.heap.size + 1, 0, none⟩, 1, _, rfl, Nat.le_refl _, by simp [maxLen], by simp, hr, Each.one ⟨_, rfl, hb, by simp [e1], by simp [e1]⟩⟩
set_option maxRecDepth 100000 in
set_option maxHeartbeats 4000000 in
theorem f9_calls (w : World) : Calls Tryz.prog 9 #[] w fun e w' => e = .returned (.bool true) ∧ Ext w w' := by
  obtain ⟨B, hB⟩ : ∃ B, B = w.heap.size := ⟨_, rfl⟩
  have C18 := Lib.hid (f18_calls (B := B) w 2000 (by omega) (by omega) (by omega))
  have c14 := fun W dp (hx : Ext w W) (h : DiskAt B W dp (zeroDisk 2000)) => f14_fresh W dp 2000 h (by omega) (by omega) (by have := hx.size; omega)
  have C14 := Lib.hid c14
  have HB := Lib.hid hB
  clear c14 hB
  have kc := fun W => Lib.run_convert_bytes_const (P := Tryz.prog) W 25 5 #[.int .u8 120] 1 1 Tryz.underlying25 Tryz.underlying5
  go_enter Tryz.func9, Tryz.ntmps9
  go_upto_region 6 with (first | (go_at_call 18; refine C18.out.mono ?_; rintro e w1 ⟨dp, rfl, hd1, hx1⟩; have D1 := Lib.hid hd1; have X1 := Lib.hid hx1; clear hd1 hx1 C18) | (go_at_call 14; refine (C14.out _ _ X1.out D1.out).mono ?_; rintro e w2 ⟨v, p, rfl, hv2, hm2⟩; have V2 := Lib.hid hv2; have M2 := Lib.hid hm2; clear hv2 hm2 C14))
  have hl : IsLog B (((w2.alloc (.cells #[.int .u8 120] 5 (1, 2))).alloc (.cells #[.int .u64 1, .int .u64 1, .slice (some ⟨w2.heap.size, 0, none⟩) 1 1] 50)).alloc (.cells #[.int .u64 2, .int .i64 1, .int .u64 0, .int .u64 0, .slice none 0 0, .slice (some ⟨w2.heap.size + 1, 0, none⟩) 1 1] 30)) (.agg #[.int .u64 2, .int .i64 1, .int .u64 0, .int .u64 0, .slice none 0 0, .slice (some ⟨w2.heap.size + 1, 0, none⟩) 1 1]) lg1 := (lg1_lies w2).ext (Ext.rfl'.alloc _)
  have hb : Blk (((w2.alloc (.cells #[.int .u8 120] 5 (1, 2))).alloc (.cells #[.int .u64 1, .int .u64 1, .slice (some ⟨w2.heap.size, 0, none⟩) 1 1] 50)).alloc (.cells #[.int .u64 2, .int .i64 1, .int .u64 0, .int .u64 0, .slice none 0 0, .slice (some ⟨w2.heap.size + 1, 0, none⟩) 1 1] 30)) (w2.heap.size + 1 + 1) 30 #[.int .u64 2, .int .i64 1, .int .u64 0, .int .u64 0, .slice none 0 0, .slice (some ⟨w2.heap.size + 1, 0, none⟩) 1 1] := by
    have h := Blk.new (w2A w2) 30 #[.int .u64 2, .int .i64 1, .int .u64 0, .int .u64 0, .slice none 0 0, .slice (some ⟨w2.heap.size + 1, 0, none⟩) 1 1]
    rw [show (w2A w2).heap.size = w2.heap.size + 1 + 1 by simp [w2A, w1A]] at h
    exact h
  have hx : Ext w2 (((w2.alloc (.cells #[.int .u8 120] 5 (1, 2))).alloc (.cells #[.int .u64 1, .int .u64 1, .slice (some ⟨w2.heap.size, 0, none⟩) 1 1] 50)).alloc (.cells #[.int .u64 2, .int .i64 1, .int .u64 0, .int .u64 0, .slice none 0 0, .slice (some ⟨w2.heap.size + 1, 0, none⟩) 1 1] 30)) := ((Ext.rfl'.alloc _).alloc _).alloc _
  generalize ((w2.alloc (.cells #[.int .u8 120] 5 (1, 2))).alloc (.cells #[.int .u64 1, .int .u64 1, .slice (some ⟨w2.heap.size, 0, none⟩) 1 1] 50)).alloc (.cells #[.int .u64 2, .int .i64 1, .int .u64 0, .int .u64 0, .slice none 0 0, .slice (some ⟨w2.heap.size + 1, 0, none⟩) 1 1] 30) = w3 at *
  generalize w2.heap.size + 1 = c at *
  have hB3 : B ≤ w3.heap.size := by have := HB.out; have := X1.out.size; have := M2.out.size; have := hx.size; omega
  obtain ⟨L, hL⟩ : ∃ L : Lg, L = lg1 := ⟨_, rfl⟩
  have c16 := fun W (hw : Ext w3 W) => (f16_lg1 W v p dp _ (V2.out.ext (hx.trans hw)) (hl.ext hw) (Nat.le_trans hB3 hw.size)).mono (R' := fun e w' => e = .returned .nilIface ∧ VaultAt B w' v p dp (syncG (appAll (g1 2000) [(lw1 2).flatten])) lg1 ∧ Mut B [91, 93, 95, 97, 25, 3, 74] w3 w') (by rintro e w' ⟨h1, h2, h3⟩; exact ⟨h1, h2, hw.mut.trans h3⟩)
  have C16 := Lib.hid c16
  have M3 := Lib.hid ((X1.out.mut.trans M2.out).ext hx)
  have HL := Lib.hid hl
  have HBk := Lib.hid hb
  have HB3 := Lib.hid hB3
  obtain ⟨s1, s2, s3⟩ := hb.rules
  clear c16 hl hb hx hB3 kc V2 D1 X1 M2
  go_region_held3 (fun wq => wq.cell? ⟨c + 1, 0, none⟩ = some (.int .u64 2) ∧ wq.cell? ⟨c + 1, 1, none⟩ = some (.int .i64 1) ∧ wq.cell? ⟨c + 1, 2, none⟩ = some (.int .u64 0) ∧ wq.cell? ⟨c + 1, 3, none⟩ = some (.int .u64 0) ∧ wq.cell? ⟨c + 1, 4, none⟩ = some (.slice none 0 0) ∧ wq.cell? ⟨c + 1, 5, none⟩ = some (.slice (some ⟨c, 0, none⟩) 1 1)) (go_keep) (first | (go_at_call 16; refine (C16.out _ ?_).mono ?_; (repeat (first | exact Ext.rfl' | refine Ext.drew ?_ | refine Ext.alloc ?_ _)); rintro e w4 ⟨rfl, hv4, hm4⟩; have M4 := Lib.hid hm4; obtain ⟨q1, q2, q3⟩ := (HBk.out.mut hm4 (by simp)).rules; have D17 := Lib.hid (f17_log w4 v p dp _ lg1 hv4 (Nat.le_trans HB3.out hm4.size) (by decide) (by decide) (by decide)); clear hv4 hm4 s1 s2 s3 C16) | (go_at_call 17; refine D17.out.mono ?_; rintro e w5 ⟨u5, rfl, hl5, hx5⟩; obtain ⟨q4, q5, q6⟩ := ((HBk.out.mut M4.out (by simp)).ext hx5).rules; have X5 := Lib.hid hx5; have hl6 := (HL.out.mut M4.out (by simp) (by simp)).ext hx5; have d13 := f13_calls w5 u5 _ lg1 lg1 hl5 hl6; rw [lg1_eq] at d13; have D13 := Lib.hid d13; clear d13; have HL6 := Lib.hid hl6; obtain ⟨D5, y5, E5, z5, _, rfl, -⟩ := hl5.open_; clear hl5 hl6 hx5 q1 q2 q3 D17) | (go_at_call 13; refine D13.out.mono ?_; rintro e w6 ⟨rfl, hx6⟩; obtain ⟨q1, q2, q3⟩ := (((HBk.out.mut M4.out (by simp)).ext X5.out).ext hx6).rules; have X6 := Lib.hid hx6; have d11 := f11_calls w6 _ lg1 (HL6.out.ext hx6); rw [lg1_right] at d11; have D11 := Lib.hid d11; clear d11; clear hx6 q4 q5 q6 D13) | (go_at_call 11; refine D11.out.mono ?_; rintro e w7 ⟨rfl, hx7⟩; obtain ⟨q4, q5, q6⟩ := ((((HBk.out.mut M4.out (by simp)).ext X5.out).ext X6.out).ext hx7).rules; have X7 := Lib.hid hx7; clear hx7 q1 q2 q3 D11))
  refine then_normal ?_
  go_step
  go_wp2
  go_ret
  refine ⟨rfl, ?_⟩
  have hB := HB.out
  subst hB
  exact ((((M3.out.mono (by simp)).trans M4.out).ext X5.out).ext (X6.out.trans X7.out)).old
end Go.Proofs.YtpjodgoljocnlaaGreatDoor
