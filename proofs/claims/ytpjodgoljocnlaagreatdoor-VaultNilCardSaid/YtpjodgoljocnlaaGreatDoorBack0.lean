/- wal.Back of nothing. -/
import Derived.Test.YtpjodgoljocnlaaGreatDoorWal
namespace Go.Proofs.YtpjodgoljocnlaaGreatDoor
open Go Go.RowKit
variable {B e' : Nat}
set_option maxRecDepth 100000 in
set_option maxHeartbeats 2000000 in
theorem f35_next (w : World) (p dp n : Nat) (g : Wg) (h : LogAt B w p dp g) (hd : g.dead = false) (hu : g.d.down = false) (hn : n = g.next) :
    Calls Tryz.prog 35 #[.pointer (some ⟨p, 0, none⟩), .int .u64 n] w fun e w' => e = .returned (.int .i64 0) ∧ w' = w.drew.drew := by
  have hle : g.first ≤ n := by rw [hn]; unfold Wg.next; omega
  have C52 := Lib.hid (f52_calls w p dp g h)
  have c44 := fun W (hx : Ext w W) => f44_calls W p dp g (h.ext hx)
  have c57 := fun W (hx : Ext w W) => f57_calls W p dp g (h.ext hx) hd hu
  rw [← hn] at c44
  have C44 := Lib.hid c44
  have C57 := Lib.hid c57
  have t1 : decide (n < g.first) = false := decide_eq_false (by omega)
  have t2 : decide (n < n) = false := decide_eq_false (by omega)
  have t3 : ((n : Int) == (n : Int)) = true := by simp
  clear h hd hu hn c44 c57
  go_enter Tryz.func35, Tryz.ntmps35
  go_wp2_with (first | (go_at_call 52; refine C52.out.mono ?_; rintro e w' ⟨rfl, rfl⟩) | (go_at_call 44; refine (C44.out _ ?_).mono ?_; (repeat (first | exact Ext.rfl' | refine Ext.drew ?_)); (rintro e w' ⟨rfl, rfl⟩)) | (go_at_call 57; refine (C57.out _ ?_).mono ?_; (repeat (first | exact Ext.rfl' | refine Ext.drew ?_)); (rintro e w' ⟨rfl, rfl⟩)))
  go_ret
  exact ⟨rfl, rfl⟩
end Go.Proofs.YtpjodgoljocnlaaGreatDoor
