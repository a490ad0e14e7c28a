/- errors.As at *api.Errno over a chain of faults; fault.Code. -/
import Derived.Test.YtpjodgoljocnlaaGreatDoorAsw
import Derived.Test.YtpjodgoljocnlaaGreatDoorAsNil
namespace Go.Proofs.YtpjodgoljocnlaaGreatDoor
open Go Go.RowKit Go.Extern.Stop Go.Stop Go.Extern
variable {B B0 e' : Nat}
/-- errors.errorType is as the text lays it -/
def ErrT (w : World) : Prop := w.cell? ⟨0, 0, none⟩ = some (.iface 149 (.agg #[.pointer (some ⟨1, 37, none⟩)]))
theorem ErrT.ext {w w' : World} (h : ErrT w) (hx : Ext w w') : ErrT w' := hx.cell h
set_option maxRecDepth 100000 in
set_option maxHeartbeats 4000000 in
theorem f37_calls (w : World) (n : Int) (k : Nat) (v : Value) (t : Nat) (old : Value) (h : IsFault B0 w n k v) (ht : Blk w t 40 #[old]) (hB : B ≤ t) (hg : ErrT w) :
    Calls Tryz.prog 37 #[v, .iface 80 (.pointer (some ⟨t, 0, none⟩))] w fun e w' => e = .returned (.bool true) ∧ Mut B [40] w w' ∧ Blk w' t 40 #[.int .i64 n] := by
  have hv : ∃ ty x, v = .iface ty x := by
    cases k with
    | zero => exact ⟨_, _, h⟩
    | succ m => obtain ⟨b', hb'⟩ := IsFault.head h; exact ⟨_, _, hb'⟩
  obtain ⟨ty, x, rfl⟩ := hv
  have h63 := @run_callFunc_extern Tryz.prog 63 _ (fun args => ReflectliteValue.unpack (args.getD 0 (.tuple #[]))) Tryz.func63 (by kernel_rfl) (by kernel_rfl) (by kernel_rfl) (by kernel_rfl)
  have h64 := @run_callFunc_extern Tryz.prog 64 _ (ReflectliteValue.methodAny (ReflectliteValue.valueError "reflectlite.Value.Type" 0) (fun t _ _ _ => ReflectliteType.toType t)) Tryz.func64 (by kernel_rfl) (by kernel_rfl) (by kernel_rfl) (by kernel_rfl)
  have h65 := @run_callFunc_extern Tryz.prog 65 _ (ReflectliteValue.method (ReflectliteValue.valueError "reflectlite.Value.IsNil" 0) ReflectliteValue.isNil) Tryz.func65 (by kernel_rfl) (by kernel_rfl) (by kernel_rfl) (by kernel_rfl)
  have h124 := @run_callFunc_extern Tryz.prog 124 _ (ReflectliteType.abiMethod fun t => do pure (.int .u8 (← Rtype.kind t))) Tryz.func124 (by kernel_rfl) (by kernel_rfl) (by kernel_rfl) (by kernel_rfl)
  have h138 := @run_callFunc_extern Tryz.prog 138 _ (ReflectliteType.method ReflectliteType.elem) Tryz.func138 (by kernel_rfl) (by kernel_rfl) (by kernel_rfl) (by kernel_rfl)
  have h139 := @run_callFunc_extern Tryz.prog 139 _ (ReflectliteType.relation "Implements" ReflectliteType.implements_) Tryz.func139 (by kernel_rfl) (by kernel_rfl) (by kernel_rfl) (by kernel_rfl)
  have v80 := Tryz.asValueOf80
  have t80 := Tryz.asType80
  have k80 := Tryz.asKind80
  have k40 := Tryz.asKind40
  have e80 := Tryz.asElem80
  have i40 := Tryz.asImpl40
  have hp1 := (Blk.new w 80 #[.pointer (some ⟨t, 0, none⟩)]).alloc (.cells #[.pointer (some ⟨1, 80, none⟩), .pointer (some ⟨w.heap.size, 0, none⟩), .int .u64 150] 123)
  have hx2 : Ext w ((w.alloc (.cells #[.pointer (some ⟨t, 0, none⟩)] 80)).alloc (.cells #[.pointer (some ⟨1, 80, none⟩), .pointer (some ⟨w.heap.size, 0, none⟩), .int .u64 150] 123)) := (Ext.rfl'.alloc _).alloc _
  have n65 := Tryz.asIsNil80 ⟨w.heap.size, 0, none⟩ ⟨t, 0, none⟩ ((w.alloc (.cells #[.pointer (some ⟨t, 0, none⟩)] 80)).alloc (.cells #[.pointer (some ⟨1, 80, none⟩), .pointer (some ⟨w.heap.size, 0, none⟩), .int .u64 150] 123)) (by rw [hp1.rules.1]; rfl)
  have hg2 : ((w.alloc (.cells #[.pointer (some ⟨t, 0, none⟩)] 80)).alloc (.cells #[.pointer (some ⟨1, 80, none⟩), .pointer (some ⟨w.heap.size, 0, none⟩), .int .u64 150] 123)).cell? ⟨0, 0, none⟩ = some (.iface 149 (.agg #[.pointer (some ⟨1, 37, none⟩)])) := hg.ext hx2
  have C66 := Lib.hid (f66_calls _ n k _ t w.heap.size old (h.ext hx2) hp1 (ht.ext hx2) hB)
  have HX := Lib.hid hx2
  clear h ht hp1 hx2 hg
  go_enter Tryz.func37, Tryz.ntmps37
  go_wp2_with (go_at_call 66; refine C66.out.mono ?_; rintro e w3 ⟨rfl, hm3, hb3⟩)
  go_ret
  exact ⟨rfl, HX.out.mut.trans hm3, hb3⟩
set_option maxRecDepth 100000 in
set_option maxHeartbeats 1000000 in
theorem f15_nil (w : World) : Calls Tryz.prog 15 #[.nilIface] w fun e w' => e = .returned (.int .i64 0) ∧ w' = w := by
  go_enter Tryz.func15, Tryz.ntmps15
  go_wp2
  go_ret
  exact ⟨rfl, rfl⟩
theorem Mut.oldA {T : List Nat} {w w' : World} {o : Obj} (h : Mut w.heap.size T (w.alloc o) w') : Ext w w' := by
  have hx : Ext w (w.alloc o) := Ext.rfl'.alloc o
  exact ⟨h.os, h.tape, h.output, by have := h.size; simp at this; omega, fun b hb => (h.block b (Nat.lt_of_lt_of_le hb hx.size) (.inl hb)).trans (hx.block b hb)⟩
set_option maxRecDepth 100000 in
set_option maxHeartbeats 4000000 in
theorem f15_calls (w : World) (n : Int) (k : Nat) (v : Value) (h : IsFault B0 w n k v) (hg : ErrT w) :
    Calls Tryz.prog 15 #[v] w fun e w' => e = .returned (.int .i64 n) ∧ Ext w w' := by
  have hv : ∃ ty x, v = .iface ty x := by
    cases k with
    | zero => exact ⟨_, _, h⟩
    | succ m => obtain ⟨b', hb'⟩ := IsFault.head h; exact ⟨_, _, hb'⟩
  obtain ⟨ty, x, rfl⟩ := hv
  have hx1 : Ext w (w.alloc (.cells #[.int .i64 0] 40)) := Ext.rfl'.alloc _
  have C37 := Lib.hid (f37_calls (B := w.heap.size) _ n k _ w.heap.size (.int .i64 0) (h.ext hx1) (Blk.new w 40 _) (Nat.le_refl _) (hg.ext hx1))
  clear h hg hx1
  go_enter Tryz.func15, Tryz.ntmps15
  go_wp2_with (go_at_call 37; refine C37.out.mono ?_; rintro e w2 ⟨rfl, hm2, hb2⟩; obtain ⟨r1, r2, r3⟩ := hb2.rules; have HM := Lib.hid hm2; clear hm2 hb2 C37)
  go_ret
  exact ⟨rfl, HM.out.oldA⟩
end Go.Proofs.YtpjodgoljocnlaaGreatDoor
