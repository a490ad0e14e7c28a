/- a nil vault. -/
import Derived.Test.YtpjodgoljocnlaaGreatDoorLog
import Derived.Test.YtpjodgoljocnlaaGreatDoorFault
namespace Go.Proofs.YtpjodgoljocnlaaGreatDoor
open Go Go.RowKit
variable {B e' : Nat}
set_option maxRecDepth 100000 in
set_option maxHeartbeats 1000000 in
theorem f17_nil (w : World) : Calls Tryz.prog 17 #[.pointer none] w fun e w' => e = .returned (.agg #[.int .u64 0, .int .i64 0, .int .u64 0, .int .u64 0, .slice none 0 0, .slice none 0 0]) ∧ Ext w w' := by
  go_enter Tryz.func17, Tryz.ntmps17
  go_wp2
  refine bodyPost_ret (v := .agg #[.int .u64 0, .int .i64 0, .int .u64 0, .int .u64 0, .slice none 0 0, .slice none 0 0]) (by simp [results, Tryz.results17, go_sem]) rfl ?_
  exact ⟨rfl, Ext.rfl'.alloc _⟩
set_option maxRecDepth 100000 in
set_option maxHeartbeats 1000000 in
theorem f31_nil (w : World) : Calls Tryz.prog 31 #[.pointer none] w fun e w' => e = .returned (.tuple #[.pointer none, .int .i64 2]) ∧ w' = w := by
  go_enter Tryz.func31, Tryz.ntmps31
  go_wp2
  go_ret2
  exact ⟨rfl, rfl⟩
set_option maxRecDepth 100000 in
set_option maxHeartbeats 1000000 in
theorem f14_nil (w : World) (hB : B ≤ w.heap.size) : Calls Tryz.prog 14 #[.pointer none] w fun e w' => ∃ v, e = .returned (.tuple #[.pointer none, v]) ∧ IsFault B w' 2 2 v ∧ Ext w w' := by
  have C := Lib.hid (f31_nil w)
  have D := Lib.hid (f32_calls (B := B) w 2 hB (by omega))
  go_enter Tryz.func14, Tryz.ntmps14
  go_wp2_with (first | (go_at_call 31; refine C.out.mono ?_; rintro e w1 ⟨rfl, rfl⟩) | (go_at_call 32; refine D.out.mono ?_; rintro e w2 ⟨v2, rfl, hf2, hx2⟩; obtain ⟨b2, rfl⟩ := hf2.head; have HF2 := Lib.hid hf2; have HX2 := Lib.hid hx2; clear hf2 hx2))
  go_ret2
  exact ⟨_, rfl, HF2.out, HX2.out⟩
set_option maxRecDepth 100000 in
set_option maxHeartbeats 1000000 in
theorem f16_nil (w : World) (t : Int) (vo : Int) (si st : Int) (D E : Option Addr) (n c n' c' : Nat) (hB : B ≤ w.heap.size) :
    Calls Tryz.prog 16 #[.pointer none, .agg #[.int .u64 t, .int .i64 vo, .int .u64 si, .int .u64 st, .slice D n c, .slice E n' c']] w fun e w' => ∃ v, e = .returned v ∧ IsFault B w' 2 2 v ∧ Ext w w' := by
  have D1 := Lib.hid (fun wx (hx : Ext w wx) => f32_calls (B := B) wx 2 (Nat.le_trans hB hx.size) (by omega))
  go_enter Tryz.func16, Tryz.ntmps16
  go_wp2_with (go_at_call 32; refine (D1.out _ (Ext.rfl'.alloc _)).mono ?_; rintro e w2 ⟨v2, rfl, hf2, hx2⟩; obtain ⟨b2, rfl⟩ := hf2.head; have HF2 := Lib.hid hf2; have HX2 := Lib.hid hx2; clear hf2 hx2)
  go_ret
  exact ⟨_, rfl, HF2.out, (Ext.rfl'.alloc _).trans HX2.out⟩
end Go.Proofs.YtpjodgoljocnlaaGreatDoor
