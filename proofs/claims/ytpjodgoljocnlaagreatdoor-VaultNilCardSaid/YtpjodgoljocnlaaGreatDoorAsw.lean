/- errors.As at *api.Errno over a chain of faults: the loop (errors.as). -/
import Derived.Test.YtpjodgoljocnlaaGreatDoorAs
namespace Go.Proofs.YtpjodgoljocnlaaGreatDoor
open Go Go.RowKit Go.Extern.Stop Go.Stop Go.Extern
variable {B B0 e' : Nat}
theorem Tryz.asTypeOf40 (v : Value) (w : World) : (ReflectliteType.typeOf #[.iface 40 v]).run Tryz.prog w = .ok (.iface 149 (.agg #[.pointer (some ⟨1, 40, none⟩)])) w := by kernel_rfl
theorem Tryz.asIs157 (v : Value) (w : World) : (Instr.typeAssert (.iface 113 v) 37 157 true).run Tryz.prog w = .ok (.tuple #[.iface 113 v, .bool true]) w := by kernel_rfl
set_option maxRecDepth 100000 in
set_option maxHeartbeats 4000000 in
theorem f66_calls (w : World) (n : Int) (k : Nat) (v : Value) (t a : Nat) (old : Value) (h : IsFault B0 w n k v) (ha : Blk w a 80 #[.pointer (some ⟨t, 0, none⟩)]) (ht : Blk w t 40 #[old]) (hB : B ≤ t) :
    Calls Tryz.prog 66 #[v, .iface 80 (.pointer (some ⟨t, 0, none⟩)), .agg #[.pointer (some ⟨1, 80, none⟩), .pointer (some ⟨a, 0, none⟩), .int .u64 150], .iface 149 (.agg #[.pointer (some ⟨1, 40, none⟩)])] w
      fun e w' => e = .returned (.bool true) ∧ Mut B [40] w w' ∧ Blk w' t 40 #[.int .i64 n] := by
  have h63 := @run_callFunc_extern Tryz.prog 63 _ (fun args => ReflectliteValue.unpack (args.getD 0 (.tuple #[]))) Tryz.func63 (by kernel_rfl) (by kernel_rfl) (by kernel_rfl) (by kernel_rfl)
  have h93 := @run_callFunc_extern Tryz.prog 93 _ ReflectliteType.typeOf Tryz.func93 (by kernel_rfl) (by kernel_rfl) (by kernel_rfl) (by kernel_rfl)
  have h136 := @run_callFunc_extern Tryz.prog 136 _ (ReflectliteType.relation "AssignableTo" ReflectliteType.assignableTo) Tryz.func136 (by kernel_rfl) (by kernel_rfl) (by kernel_rfl) (by kernel_rfl)
  have h94 := @run_callFunc_extern Tryz.prog 94 _ (ReflectliteValue.method (ReflectliteValue.valueError "reflectlite.Value.Elem" 0) ReflectliteValue.elem) Tryz.func94 (by kernel_rfl) (by kernel_rfl) (by kernel_rfl) (by kernel_rfl)
  have h95 := @run_callFunc_extern Tryz.prog 95 _ ReflectliteValue.set Tryz.func95 (by kernel_rfl) (by kernel_rfl) (by kernel_rfl) (by kernel_rfl)
  have t113 := Tryz.asTypeOf113
  have t40 := Tryz.asTypeOf40
  have i157 := Tryz.asIs157
  have a113 := Tryz.asTo113
  have a40 := Tryz.asTo40
  have n40 := Tryz.asNoAs40
  have n113 := Tryz.asNoAs113
  have v40 := Tryz.asValueOf40
  have H := Lib.hid (And.intro h (And.intro ha ht))
  clear h ha ht
  go_enter Tryz.func66, Tryz.ntmps66
  go_wp2
  go_loopg [0] k (fun m ev wr => IsFault B0 w n m ev ∧ w.alloc (.cells #[.pointer (some ⟨1, 80, none⟩), .pointer (some ⟨a, 0, none⟩), .int .u64 150] 123) = wr)
  case atStart => exact ⟨H.out.1, rfl⟩
  case round =>
    obtain ⟨hf, rfl⟩ := hrel
    cases gk with
    | zero =>
      have hv : _ = _ := hf
      subst hv
      clear hf
      obtain ⟨-, ha, ht⟩ := H.out
      have ha1 := ha.alloc (.cells #[.pointer (some ⟨1, 80, none⟩), .pointer (some ⟨a, 0, none⟩), .int .u64 150] 123)
      have ht1 := (ht.alloc (.cells #[.pointer (some ⟨1, 80, none⟩), .pointer (some ⟨a, 0, none⟩), .int .u64 150] 123)).alloc (.cells #[.int .i64 n] 40)
      have hv1 := Blk.new (w.alloc (.cells #[.pointer (some ⟨1, 80, none⟩), .pointer (some ⟨a, 0, none⟩), .int .u64 150] 123)) 40 #[.int .i64 n]
      have hz : (w.alloc (.cells #[.pointer (some ⟨1, 80, none⟩), .pointer (some ⟨a, 0, none⟩), .int .u64 150] 123)).heap.size = w.heap.size + 1 := by simp
      rw [hz] at hv1
      have el := Tryz.asElemV80 ⟨a, 0, none⟩ ⟨t, 0, none⟩ (w.alloc (.cells #[.pointer (some ⟨1, 80, none⟩), .pointer (some ⟨a, 0, none⟩), .int .u64 150] 123)) (by rw [ha1.rules.1]; rfl)
      have st := Tryz.asSet40 ⟨t, 0, none⟩ ⟨w.heap.size + 1, 0, none⟩ n old ((w.alloc (.cells #[.pointer (some ⟨1, 80, none⟩), .pointer (some ⟨a, 0, none⟩), .int .u64 150] 123)).alloc (.cells #[.int .i64 n] 40)) (by rw [hv1.rules.1]; rfl) (by rw [ht1.rules.1]; rfl) (ht1.rules.2.1 0)
      have M1 := Lib.hid (((Mut.rfl' (B := B) (T := [40]) (w := w)).alloc (.cells #[.pointer (some ⟨1, 80, none⟩), .pointer (some ⟨a, 0, none⟩), .int .u64 150] 123)).alloc (.cells #[.int .i64 n] 40))
      have HT := Lib.hid ht
      have HT1 := Lib.hid ht1
      clear ha ht ha1 ht1 hv1 hz
      go_wp2
      go_ret
      exact ⟨rfl, M1.out.put HT.out (by simp) hB 0 none _, HT1.out.set_ 0 (.int .i64 n)⟩
    | succ m =>
      obtain ⟨b, s, u, rfl, hBb, hb, hu⟩ := hf
      have hu' : ∃ ty x, u = .iface ty x := by
        cases m with
        | zero => exact ⟨_, _, hu⟩
        | succ m => obtain ⟨b', hb'⟩ := IsFault.head hu; exact ⟨_, _, hb'⟩
      obtain ⟨ty, x, rfl⟩ := hu'
      have C131 := Lib.hid (fun W (hx : Ext w W) => f131_calls W b ty s x (hb.ext hx))
      have HU := Lib.hid hu
      clear hb hu
      go_wp2_with (go_at_call 131; refine (C131.out _ (Ext.rfl'.alloc _)).mono ?_; rintro e w2 ⟨rfl, rfl⟩)
      go_roundg m
      case measure => omega
      case rel => exact ⟨HU.out, rfl⟩
end Go.Proofs.YtpjodgoljocnlaaGreatDoor
