/- fault.New, fault.Wrap, vault.as: an error is a chain of faults that ends in a code. -/
import Derived.Test.YtpjodgoljocnlaaGreatDoorBase
namespace Go.Proofs.YtpjodgoljocnlaaGreatDoor
open Go Go.RowKit
variable {B e' : Nat}
/-- an error whose code is n, k faults deep -/
def IsFault (B : Nat) (w : World) (n : Int) : Nat → Value → Prop
  | 0, v => v = .iface 40 (.int .i64 n)
  | k + 1, v => ∃ b s u, v = .iface 113 (.pointer (some ⟨b, 0, none⟩)) ∧ B ≤ b ∧ Blk w b 115 #[s, u] ∧ IsFault B w n k u
theorem IsFault.mut {T : List Nat} {w w' : World} {n : Int} (hm : Mut B T w w') (hT : 115 ∉ T) : ∀ {k : Nat} {v : Value}, IsFault B w n k v → IsFault B w' n k v
  | 0, _, h => h
  | _ + 1, _, ⟨b, s, u, h1, h2, h3, h4⟩ => ⟨b, s, u, h1, h2, h3.mut hm hT, IsFault.mut hm hT h4⟩
theorem IsFault.ext {w w' : World} {n : Int} {k : Nat} {v : Value} (h : IsFault B w n k v) (hx : Ext w w') : IsFault B w' n k v := h.mut (T := []) hx.mut (by simp)
set_option maxRecDepth 100000 in
set_option maxHeartbeats 1000000 in
theorem f45_calls (w : World) (n : Int) (s : ByteArray) (hB : B ≤ w.heap.size) (hn : n ≠ 0) :
    Calls Tryz.prog 45 #[.int .i64 n, .string s] w fun e w' => ∃ v, e = .returned v ∧ IsFault B w' n 1 v ∧ Ext w w' := by
  have hz : (n == 0) = false := by simp [hn]
  go_enter Tryz.func45, Tryz.ntmps45
  go_wp2
  go_ret
  exact ⟨_, rfl, ⟨w.heap.size, _, _, rfl, hB, Blk.new w 115 _, rfl⟩, Ext.rfl'.alloc _⟩
set_option maxRecDepth 100000 in
set_option maxHeartbeats 1000000 in
theorem f45_ok (w : World) (s : ByteArray) : Calls Tryz.prog 45 #[.int .i64 0, .string s] w fun e w' => e = .returned .nilIface ∧ w' = w := by
  go_enter Tryz.func45, Tryz.ntmps45
  go_wp2
  go_ret
  exact ⟨rfl, rfl⟩
set_option maxRecDepth 100000 in
set_option maxHeartbeats 1000000 in
theorem f34_calls (w : World) (n : Int) (k b : Nat) (s : ByteArray) (hB : B ≤ w.heap.size) (h : IsFault B w n (k + 1) (.iface 113 (.pointer (some ⟨b, 0, none⟩)))) :
    Calls Tryz.prog 34 #[.iface 113 (.pointer (some ⟨b, 0, none⟩)), .string s] w fun e w' => ∃ v, e = .returned v ∧ IsFault B w' n (k + 2) v ∧ Ext w w' := by
  have H := Lib.hid h
  clear h
  go_enter Tryz.func34, Tryz.ntmps34
  go_wp2
  go_ret
  exact ⟨_, rfl, ⟨w.heap.size, _, _, rfl, hB, Blk.new w 115 _, H.out.ext (Ext.rfl'.alloc _)⟩, Ext.rfl'.alloc _⟩
theorem IsFault.head {w : World} {n : Int} {k : Nat} {v : Value} (h : IsFault B w n (k + 1) v) : ∃ b, v = .iface 113 (.pointer (some ⟨b, 0, none⟩)) := by
  obtain ⟨b, s, u, h1, -⟩ := h
  exact ⟨b, h1⟩
set_option maxRecDepth 100000 in
set_option maxHeartbeats 1000000 in
theorem f32_calls (w : World) (n : Int) (hB : B ≤ w.heap.size) (hn : n ≠ 0) :
    Calls Tryz.prog 32 #[.int .i64 n] w fun e w' => ∃ v, e = .returned v ∧ IsFault B w' n 2 v ∧ Ext w w' := by
  have C := Lib.hid (fun s => f45_calls (B := B) w n s hB hn)
  have HB := Lib.hid hB
  go_enter Tryz.func32, Tryz.ntmps32
  go_wp2_with (first | (go_at_call 45; refine (C.out _).mono ?_; rintro e w1 ⟨v1, rfl, hf1, hx1⟩; obtain ⟨b1, rfl⟩ := hf1.head; have D := Lib.hid (fun s => f34_calls (B := B) w1 n 0 b1 s (Nat.le_trans HB.out hx1.size) hf1); have HX1 := Lib.hid hx1; clear hf1 hx1 C) | (go_at_call 34; refine (D.out _).mono ?_; rintro e w2 ⟨v2, rfl, hf2, hx2⟩; obtain ⟨b2, rfl⟩ := hf2.head; have HF2 := Lib.hid hf2; have HX2 := Lib.hid hx2; clear hf2 hx2 D))
  go_ret
  exact ⟨_, rfl, HF2.out, HX1.out.trans HX2.out⟩
set_option maxRecDepth 100000 in
set_option maxHeartbeats 1000000 in
theorem f131_calls (w : World) (b t : Nat) (s x : Value) (h : Blk w b 115 #[s, .iface t x]) :
    Calls Tryz.prog 131 #[.pointer (some ⟨b, 0, none⟩)] w fun e w' => e = .returned (.iface t x) ∧ w' = w := by
  obtain ⟨r1, -, -⟩ := h.rules
  clear h
  go_enter Tryz.func131, Tryz.ntmps131
  go_wp2
  go_ret
  exact ⟨rfl, rfl⟩
end Go.Proofs.YtpjodgoljocnlaaGreatDoor
