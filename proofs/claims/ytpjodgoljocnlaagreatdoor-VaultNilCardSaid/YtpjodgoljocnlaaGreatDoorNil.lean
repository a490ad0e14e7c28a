/- VaultNil: the walk of the law. -/
import Derived.Test.YtpjodgoljocnlaaGreatDoorAwk2
import Derived.Test.YtpjodgoljocnlaaGreatDoorNone
import Derived.Test.YtpjodgoljocnlaaGreatDoorAsx
namespace Go.Proofs.YtpjodgoljocnlaaGreatDoor
open Go Go.RowKit
variable {B e' : Nat}
theorem lg0_eq : lgB lg0 lg0 = true := by decide +kernel
set_option maxRecDepth 100000 in
set_option maxHeartbeats 4000000 in
theorem f4_calls (w : World) (u : Value) (l : Lg) (hu : IsLog B w u l) (hg : ErrT w) :
    Calls Tryz.prog 4 #[u] w fun e w' => e = .returned (.bool true) ∧ Ext w w' := by
  obtain ⟨D, dc, E, ec, cs, rfl, -, -, -, -, -, -, -, -⟩ := hu.open_
  have C14 := Lib.hid (fun W => f14_nil (B := 0) W (Nat.zero_le _))
  have HG := Lib.hid hg
  clear hu hg
  go_enter Tryz.func4, Tryz.ntmps4
  go_upto_region 3 with (go_at_call 14; refine (C14.out _).mono ?_; rintro e w1 ⟨v14, rfl, hf1, hx1⟩; obtain ⟨b14, rfl⟩ := hf1.head; have F1 := Lib.hid hf1; have X1 := Lib.hid ((Ext.rfl'.alloc _).trans hx1); have K1 := Lib.hid ((Blk.new w 30 #[.int .u64 l.term, .int .i64 l.vote, .int .u64 l.six, .int .u64 l.sterm, .slice D l.sdata.length dc, .slice E l.ents.length ec]).ext hx1); clear hf1 hx1 C14)
  obtain ⟨r1, r2, r3⟩ := K1.out.rules
  generalize hbA : w.heap.size = a at *
  have c9 := fun W (hx : Ext w1 W) => (f9_calls W).mono (R' := fun e w' => e = .returned (.bool true) ∧ Ext w1 w') (by rintro e w' ⟨h1, h2⟩; exact ⟨h1, hx.trans h2⟩)
  have c15 := fun W (hx : Ext w1 W) => (f15_calls W 2 2 _ (F1.out.ext hx) ((HG.out.ext X1.out).ext hx)).mono (R' := fun e w' => e = .returned (.int .i64 2) ∧ Ext w1 w') (by rintro e w' ⟨h1, h2⟩; exact ⟨h1, hx.trans h2⟩)
  have c16 := fun W (hx : Ext w1 W) => (f16_nil (B := 0) W l.term l.vote l.six l.sterm D E l.sdata.length dc l.ents.length ec (Nat.zero_le _)).mono (R' := fun e w' => ∃ v, e = .returned v ∧ IsFault 0 w' 2 2 v ∧ Ext w1 w') (by rintro e w' ⟨v, h1, h2, h3⟩; exact ⟨v, h1, h2, hx.trans h3⟩)
  have C9 := Lib.hid c9
  have C15 := Lib.hid c15
  have C16 := Lib.hid c16
  clear c9 c15 c16
  go_wp2_with (first | (go_at_call 9; refine (C9.out _ ?_).mono ?_; (repeat (first | exact Ext.rfl' | refine Ext.drew ?_ | refine Ext.alloc ?_ _)); rintro e w2 ⟨rfl, hx2⟩; obtain ⟨p1, p2, p3⟩ := (K1.out.ext hx2).rules; have X2 := Lib.hid hx2; clear hx2 r1 r2 r3 C9) | (go_at_call 15; refine (C15.out _ X2.out).mono ?_; rintro e w3 ⟨rfl, hx3⟩; obtain ⟨q1, q2, q3⟩ := (K1.out.ext hx3).rules; have X3 := Lib.hid hx3; clear hx3 p1 p2 p3 C15) | (go_at_call 16; refine (C16.out _ X3.out).mono ?_; rintro e w4 ⟨v16, rfl, hf4, hx4⟩; obtain ⟨b16, rfl⟩ := hf4.head; obtain ⟨p1, p2, p3⟩ := (K1.out.ext hx4).rules; have X4 := Lib.hid hx4; have D15 := Lib.hid (f15_calls w4 2 2 _ hf4 ((HG.out.ext X1.out).ext hx4)); clear hx4 hf4 q1 q2 q3 C16) | (go_at_call 15; refine D15.out.mono ?_; rintro e w5 ⟨rfl, hx5⟩; obtain ⟨q1, q2, q3⟩ := (K1.out.ext (X4.out.trans hx5)).rules; have X5 := Lib.hid (X4.out.trans hx5); have D17 := Lib.hid (f17_nil w5); clear hx5 p1 p2 p3 D15) | (go_at_call 17; refine D17.out.mono ?_; rintro e w6 ⟨rfl, hx6⟩; obtain ⟨p1, p2, p3⟩ := (K1.out.ext (X5.out.trans hx6)).rules; have X6 := Lib.hid (X5.out.trans hx6); have hz : IsLog 0 w6 zeroLogV lg0 := ⟨_, _, rfl, IsBytes.nil _, IsSlice.nil, lg0_fit⟩; have d13 := f13_calls w6 zeroLogV zeroLogV lg0 lg0 hz hz; rw [lg0_eq] at d13; unfold zeroLogV at d13; have D13 := Lib.hid d13; clear hx6 q1 q2 q3 hz d13 D17) | (go_at_call 13; refine D13.out.mono ?_; rintro e w7 ⟨rfl, hx7⟩; obtain ⟨q1, q2, q3⟩ := (K1.out.ext (X6.out.trans hx7)).rules; have X7 := Lib.hid (X6.out.trans hx7); clear hx7 p1 p2 p3 D13))
  go_ret
  exact ⟨rfl, X1.out.trans X7.out⟩
end Go.Proofs.YtpjodgoljocnlaaGreatDoor
