/- VaultRight: the walk of the law. -/
import Derived.Test.YtpjodgoljocnlaaGreatDoorAwk2
import Derived.Test.YtpjodgoljocnlaaGreatDoorCpy
import Derived.Test.YtpjodgoljocnlaaGreatDoorRight2
namespace Go.Proofs.YtpjodgoljocnlaaGreatDoor
open Go Go.RowKit
variable {B e' : Nat}
theorem lgB_refl (l : Lg) : lgB l l = true := by
  exact lgB_iff.2 rfl
set_option maxRecDepth 100000 in
set_option maxHeartbeats 4000000 in
theorem f3_calls (w : World) (u : Value) (l : Lg) (hu : IsLog B w u l) (hB : B ≤ w.heap.size) (hbig : l.sdata.length + sumLen l.ents ≤ big) (hn : l.ents.length ≤ big) :
    Calls Tryz.prog 3 #[u] w fun e w' => e = .returned (.bool true) ∧ Ext w w' := by
  obtain ⟨D, dc, E, ec, cs, rfl, -, -, -, -, -, -, -, -⟩ := hu.open_
  have c8 := fun W (hx : Ext w W) => f8_calls W _ l (hu.ext hx) hbig
  have c10 := fun W (hx : Ext w W) => f10_calls W _ l (hu.ext hx) (Nat.le_trans hB hx.size) (by omega) (by omega) hn
  have C8 := Lib.hid c8
  have C10 := Lib.hid c10
  have HU := Lib.hid hu
  clear c8 c10 hu hbig hn
  go_enter Tryz.func3, Tryz.ntmps3
  go_wp2_with (go_at_call 8; refine (C8.out _ ?_).mono ?_; (repeat (first | exact Ext.rfl' | refine Ext.alloc ?_ _)); rintro e w1 ⟨rfl, hx1⟩; obtain ⟨r1, r2, r3⟩ := ((Blk.new w 30 _).ext hx1).rules; have B1 := Lib.hid ((Blk.new w 30 _).ext hx1); have X1 := Lib.hid ((Ext.rfl'.alloc _).trans hx1); clear hx1 C8)
  · refine (f9_calls w1).mono ?_
    rintro e w2 ⟨rfl, hx2⟩
    go_wp2
    go_ret
    exact ⟨rfl, X1.out.trans hx2⟩
  refine (C10.out w1 X1.out).mono ?_
  rintro e w2 ⟨v2, rfl, hl2, hx2⟩
  obtain ⟨D2, dc2, E2, ec2, _, rfl, -, -, -, -, -, -, -, -⟩ := hl2.open_
  go_wp2
  have kA := (B1.out.ext hx2).alloc (.cells #[.int .u64 l.term, .int .i64 l.vote, .int .u64 l.six, .int .u64 l.sterm, .slice D2 l.sdata.length dc2, .slice E2 l.ents.length ec2] 30)
  have kB := Blk.new w2 30 #[.int .u64 l.term, .int .i64 l.vote, .int .u64 l.six, .int .u64 l.sterm, .slice D2 l.sdata.length dc2, .slice E2 l.ents.length ec2]
  have hl3 := hl2.ext (Ext.rfl'.alloc (.cells #[.int .u64 l.term, .int .i64 l.vote, .int .u64 l.six, .int .u64 l.sterm, .slice D2 l.sdata.length dc2, .slice E2 l.ents.length ec2] 30))
  have hx3 := (X1.out.trans hx2).alloc (.cells #[.int .u64 l.term, .int .i64 l.vote, .int .u64 l.six, .int .u64 l.sterm, .slice D2 l.sdata.length dc2, .slice E2 l.ents.length ec2] 30)
  generalize w2.alloc (.cells #[.int .u64 l.term, .int .i64 l.vote, .int .u64 l.six, .int .u64 l.sterm, .slice D2 l.sdata.length dc2, .slice E2 l.ents.length ec2] 30) = w3 at *
  generalize w2.heap.size = b at *
  generalize hbA : w.heap.size = a at *
  have KA := Lib.hid kA
  have KB := Lib.hid kB
  have HL3 := Lib.hid hl3
  have HU3 := Lib.hid (HU.out.ext hx3)
  have X3 := Lib.hid hx3
  obtain ⟨a1, a2, a3⟩ := kA.rules
  obtain ⟨b1, b2, b3⟩ := kB.rules
  clear hl2 hx2 kA kB hl3 hx3 r1 r2 r3 B1 C10 HU X1
  have c9 := fun W (hx : Ext w3 W) => (f9_calls W).mono (R' := fun e w' => e = .returned (.bool true) ∧ Ext w3 w') (by rintro e w' ⟨h1, h2⟩; exact ⟨h1, hx.trans h2⟩)
  have c11 := fun W (hx : Ext w3 W) => (f11_calls W _ l (HL3.out.ext hx)).mono (R' := fun e w' => e = .returned (.bool (rightB l)) ∧ Ext w3 w') (by rintro e w' ⟨h1, h2⟩; exact ⟨h1, hx.trans h2⟩)
  have c12 := fun W (hx : Ext w3 W) => (f12_calls W _ l (HU3.out.ext hx)).mono (R' := fun e w' => e = .returned (.bool (rightB l)) ∧ Ext w3 w') (by rintro e w' ⟨h1, h2⟩; exact ⟨h1, hx.trans h2⟩)
  have c13 := fun W (hx : Ext w3 W) => (f13_calls W _ _ l l (HL3.out.ext hx) (HU3.out.ext hx)).mono (R' := fun e w' => e = .returned (.bool (lgB l l)) ∧ Ext w3 w') (by rintro e w' ⟨h1, h2⟩; exact ⟨h1, hx.trans h2⟩)
  rw [lgB_refl] at c13
  generalize rightB l = R at *
  have C9 := Lib.hid c9
  have C11 := Lib.hid c11
  have C12 := Lib.hid c12
  have C13 := Lib.hid c13
  clear c9 c11 c12 c13
  go_region_held3 (fun wq => wq.cell? ⟨a, 0, none⟩ = some (.int .u64 l.term) ∧ wq.cell? ⟨a, 1, none⟩ = some (.int .i64 l.vote) ∧ wq.cell? ⟨a, 2, none⟩ = some (.int .u64 l.six) ∧ wq.cell? ⟨a, 3, none⟩ = some (.int .u64 l.sterm) ∧ wq.cell? ⟨a, 4, none⟩ = some (.slice D l.sdata.length dc) ∧ wq.cell? ⟨a, 5, none⟩ = some (.slice E l.ents.length ec) ∧ wq.cell? ⟨b, 0, none⟩ = some (.int .u64 l.term) ∧ wq.cell? ⟨b, 1, none⟩ = some (.int .i64 l.vote) ∧ wq.cell? ⟨b, 2, none⟩ = some (.int .u64 l.six) ∧ wq.cell? ⟨b, 3, none⟩ = some (.int .u64 l.sterm) ∧ wq.cell? ⟨b, 4, none⟩ = some (.slice D2 l.sdata.length dc2) ∧ wq.cell? ⟨b, 5, none⟩ = some (.slice E2 l.ents.length ec2)) (go_keep) (first | (go_at_call 9; refine (C9.out _ ?_).mono ?_; (repeat (first | exact Ext.rfl' | refine Ext.drew ?_ | refine Ext.alloc ?_ _)); rintro e w4 ⟨rfl, hx4⟩; obtain ⟨p1, p2, p3⟩ := (KA.out.ext hx4).rules; obtain ⟨q1, q2, q3⟩ := (KB.out.ext hx4).rules; have X4 := Lib.hid hx4; clear hx4 a1 a2 a3 b1 b2 b3 C9) | (go_at_call 11; refine (C11.out _ X4.out).mono ?_; rintro e w5 ⟨rfl, hx5⟩; obtain ⟨a1, a2, a3⟩ := (KA.out.ext hx5).rules; obtain ⟨b1, b2, b3⟩ := (KB.out.ext hx5).rules; have X5 := Lib.hid hx5; clear hx5 p1 p2 p3 q1 q2 q3 C11) | (go_at_call 12; refine (C12.out _ X5.out).mono ?_; rintro e w6 ⟨rfl, hx6⟩; obtain ⟨p1, p2, p3⟩ := (KA.out.ext hx6).rules; obtain ⟨q1, q2, q3⟩ := (KB.out.ext hx6).rules; have X6 := Lib.hid hx6; clear hx6 a1 a2 a3 b1 b2 b3 C12) | (go_at_call 13; refine (C13.out _ X6.out).mono ?_; rintro e w7 ⟨rfl, hx7⟩; obtain ⟨a1, a2, a3⟩ := (KA.out.ext hx7).rules; obtain ⟨b1, b2, b3⟩ := (KB.out.ext hx7).rules; have X7 := Lib.hid hx7; clear hx7 p1 p2 p3 q1 q2 q3 C13))
  refine then_normal ?_
  go_step
  go_wp2
  go_ret
  exact ⟨rfl, X3.out.trans X7.out⟩
end Go.Proofs.YtpjodgoljocnlaaGreatDoor
