/- Vault.Put, where the log is right and another one, and there is room behind the others. -/
import Derived.Test.YtpjodgoljocnlaaGreatDoorVap
import Derived.Test.YtpjodgoljocnlaaGreatDoorRcs
import Derived.Test.YtpjodgoljocnlaaGreatDoorRight
namespace Go.Proofs.YtpjodgoljocnlaaGreatDoor
open Go Go.RowKit
variable {B e' : Nat}
/-- the vault's own log is turned: six stores -/
theorem VaultAt.turn6 {w : World} {v p dp : Nat} {g : Wg} {l l' : Lg} {sd ev : Value} (h : VaultAt B w v p dp g l) (h3 : IsBytes B w sd l'.sdata) (h4 : IsEnts B w ev l'.ents) (h5 : l'.Fit) :
    VaultAt B ((((((w.setCell ⟨v, 1, none⟩ (.int .u64 l'.term)).setCell ⟨v, 2, none⟩ (.int .i64 l'.vote)).setCell ⟨v, 3, none⟩ (.int .u64 l'.six)).setCell ⟨v, 4, none⟩ (.int .u64 l'.sterm)).setCell ⟨v, 5, none⟩ sd).setCell ⟨v, 6, none⟩ ev) v p dp g l' ∧
      Mut B [74] w ((((((w.setCell ⟨v, 1, none⟩ (.int .u64 l'.term)).setCell ⟨v, 2, none⟩ (.int .i64 l'.vote)).setCell ⟨v, 3, none⟩ (.int .u64 l'.six)).setCell ⟨v, 4, none⟩ (.int .u64 l'.sterm)).setCell ⟨v, 5, none⟩ sd).setCell ⟨v, 6, none⟩ ev) := by
  obtain ⟨sd0, ev0, b1, b2, b3, b4, b5, b6⟩ := h.form
  have hm : Mut B [74] w ((((((w.setCell ⟨v, 1, none⟩ (.int .u64 l'.term)).setCell ⟨v, 2, none⟩ (.int .i64 l'.vote)).setCell ⟨v, 3, none⟩ (.int .u64 l'.six)).setCell ⟨v, 4, none⟩ (.int .u64 l'.sterm)).setCell ⟨v, 5, none⟩ sd).setCell ⟨v, 6, none⟩ ev) :=
    ((((((Mut.rfl' (B := B) (T := [74]) (w := w)).put b1 (by simp) b2 1 none _).put b1 (by simp) b2 2 none _).put b1 (by simp) b2 3 none _).put b1 (by simp) b2 4 none _).put b1 (by simp) b2 5 none _).put b1 (by simp) b2 6 none _
  have hb := (((((b1.set_ 1 (.int .u64 l'.term)).set_ 2 (.int .i64 l'.vote)).set_ 3 (.int .u64 l'.six)).set_ 4 (.int .u64 l'.sterm)).set_ 5 sd).set_ 6 ev
  refine ⟨⟨sd, ev, ?_, b2, h3.mut hm (by simp), h4.mut hm (by simp) (by simp), h5, b6.mut hm (by simp)⟩, hm⟩
  simpa [VtCells] using hb
def zeroLogV : Value := .agg #[.int .u64 0, .int .i64 0, .int .u64 0, .int .u64 0, .slice none 0 0, .slice none 0 0]
set_option maxRecDepth 100000 in
set_option maxHeartbeats 4000000 in
theorem f16_more (w : World) (v p dp : Nat) (g : Wg) (l l' : Lg) (u : Value) (Lw Lm : List (List UInt8)) (h : VaultAt B w v p dp g l) (hu : IsLog B w u l') (hB : B ≤ w.heap.size) (hc : Calm g.d) (hd : g.dead = false)
    (hright : rightB l' = true) (hsame : lgB l l' = false)
    (H41w : ∀ W, Ext w W → Calls Tryz.prog 41 #[zeroLogV, u, .int .u64 1] W fun e w' => ∃ r, e = .returned r ∧ OwnRecs B W.heap.size w' r Lw ∧ Ext W w')
    (H41m : ∀ W x, Ext w W → IsLog B W x l → Calls Tryz.prog 41 #[x, u, .int .u64 2] W fun e w' => ∃ r, e = .returned r ∧ OwnRecs B W.heap.size w' r Lm ∧ Ext W w')
    (hLw : ∀ x, x ∈ Lw → x.length ≤ 32768) (hLm : ∀ x, x ∈ Lm → x.length ≤ 32768) (hc1 : sumSecs Lw ≤ g.ring / 3) (hc2 : g.used + sumSecs Lm ≤ g.ring / 3 * 2) (hw : g.d.wait.length + sumSecs Lm ≤ 1048576) (hn : g.first + g.recs.length + Lm.length < huge)
    (hb1 : l'.sdata.length ≤ big) (hb2 : sumLen l'.ents ≤ big) (hb3 : l'.ents.length ≤ big) :
    Calls Tryz.prog 16 #[.pointer (some ⟨v, 0, none⟩), u] w fun e w' => e = .returned .nilIface ∧ VaultAt B w' v p dp (syncG (appAll g Lm)) l' ∧ Mut B [91, 93, 95, 97, 25, 3, 74] w w' := by
  obtain ⟨sd, ev, h1, h2, h3, h4, h5, h6⟩ := h.form
  obtain ⟨r1, r2, r3⟩ := h1.rules
  unfold VtCells at r1
  have hln := h6.len
  have hring : g.ring = g.d.kept.length - 2 := rfl
  have hr64 : g.ring ≤ 65536 := by omega
  have hl3 := len_sumSecs Lw
  have hl4 := len_sumSecs Lm
  obtain ⟨_, _, _, _, _, _, _, _, b6⟩ := h6.form
  have hus := b6.used
  have hfar0 : ∀ x, w.cell? ⟨p, 4, none⟩ = some x → ∀ k, x.ownBlock = some k → k < w.heap.size := by
    obtain ⟨rv, vs, pv, b1, -, -, b4, -, -⟩ := h6.form
    intro x hx k hk
    rw [b1.rules.1] at hx
    cases hx
    exact (b4.row.lt k hk).2
  have hp4 : ∃ x, w.cell? ⟨p, 4, none⟩ = some x := by
    obtain ⟨rv, vs, pv, b1, -, -, b4, -, -⟩ := h6.form
    exact ⟨rv, by rw [b1.rules.1]; rfl⟩
  have HFAR := Lib.hid (And.intro hfar0 hp4)
  clear hfar0 hp4
  have HSDE := Lib.hid (show IsLog B w (.agg #[.int .u64 l.term, .int .i64 l.vote, .int .u64 l.six, .int .u64 l.sterm, sd, ev]) l from ⟨_, _, rfl, h3, h4, h5⟩)
  have HU := Lib.hid hu
  obtain ⟨D, dc, E, ec, cs, rfl, -, -, -, -, -, -, -, -⟩ := hu.open_
  obtain ⟨S, sc, hS, -, -, -, -⟩ := h3.form
  subst hS
  obtain ⟨T, tc, _, hT, -, -, -, -, -⟩ := h4.form
  subst hT
  have c11 := fun W (hx : Ext w W) => f11_calls W _ _ (hu.ext hx)
  rw [hright] at c11
  have c38 := fun W (hx : Ext w W) => f38_calls W p dp g (h6.ext hx) hd hc.up
  have c39 := fun W (hx : Ext w W) => f39_calls W _ _ _ _ (HSDE.out.ext hx) (hu.ext hx)
  rw [hsame] at c39
  have c40 := fun W (hx : Ext w W) => f40_calls W p dp g (h6.ext hx)
  have C11 := Lib.hid c11
  have C38 := Lib.hid c38
  have C39 := Lib.hid c39
  have C40 := Lib.hid c40
  unfold zeroLogV at H41w
  have C41 := Lib.hid H41w
  have C41m := Lib.hid H41m
  have HV := Lib.hid h
  have HLW := Lib.hid hLw
  have HLM := Lib.hid hLm
  have HC := Lib.hid hc
  have HD := Lib.hid hd
  have HBB := Lib.hid (And.intro hb1 (And.intro hb2 hb3))
  have H1 := Lib.hid h1
  have hd1 : decide ((g.ring : Int) / 3 < (sumSecs Lw : Int)) = false := decide_eq_false (by omega)
  have hd2 : decide ((g.used : Int) + (sumSecs Lm : Int) ≤ (g.ring : Int) / 3 * 2) = true := decide_eq_true (by omega)
  clear h hu h1 h3 h4 h5 h6 b6 c11 c38 c39 c40 H41w H41m hLw hLm hc hd hb1 hb2 hb3 hring hright hsame
  go_enter Tryz.func16, Tryz.ntmps16
  go_wp2_with (first | (go_at_call 11; refine (C11.out _ ?_).mono ?_; (repeat (first | exact Ext.rfl' | refine Ext.alloc ?_ _)); rintro e w1 ⟨rfl, hx1⟩; obtain ⟨q1, q2, q3⟩ := (H1.out.ext (((Ext.rfl' (w := w)).alloc _).trans hx1)).rules; obtain ⟨s1, s2, s3⟩ := ((Blk.new w 30 _).ext hx1).rules; unfold VtCells at q1; have X1 := Lib.hid (((Ext.rfl' (w := w)).alloc _).trans hx1); have S1 := Lib.hid ((Blk.new w 30 _).ext hx1); clear hx1 r1 r2 r3 C11) | (go_at_call 38; refine (C38.out _ X1.out).mono ?_; rintro e w2 ⟨rfl, rfl⟩))
  go_still_tail 5, (by kernel_rfl)
  go_wp2_with (first | (go_at_call 39; refine (C39.out _ X1.out.drew).mono ?_; rintro e w3 ⟨rfl, hx3⟩; have X3 := Lib.hid (X1.out.drew.trans hx3); have S3 := Lib.hid (S1.out.drew.ext hx3); obtain ⟨q4, q5, q6⟩ := (H1.out.ext X3.out).rules; obtain ⟨s4, s5, s6⟩ := S3.out.rules; unfold VtCells at q4; clear hx3 q1 q2 q3 s1 s2 s3 S1 X1 C39) | (go_at_call 40; refine (C40.out _ X3.out).mono ?_; rintro e w4 ⟨rfl, rfl⟩; clear C40) | (go_at_call 41; refine (C41.out _ X3.out.drew).mono ?_; rintro e w5 ⟨rw, rfl, hrw, hx5⟩; obtain ⟨vw, hvw, hEw⟩ := hrw; obtain ⟨VW, nw, rfl, hnw1, hnw2, -⟩ := own_form hvw; have D42 := Lib.hid (f42_calls w5 VW nw vw Lw (rowAt.of_own (B := B) hvw) hEw (fun x hx => by have := HLW.out x hx; rw [big_is]; omega) (by rw [big_is]; omega) (by rw [big_is]; omega) hnw1 hnw2); have X5 := Lib.hid (X3.out.drew.trans hx5); have S5 := Lib.hid (S3.out.drew.ext hx5); obtain ⟨q1, q2, q3⟩ := (H1.out.ext X5.out).rules; obtain ⟨s1, s2, s3⟩ := S5.out.rules; unfold VtCells at q1; clear hvw hEw hx5 q4 q5 q6 s4 s5 s6 S3 X3 C41) | (go_at_call 42; refine D42.out.mono ?_; rintro e w6 ⟨rfl, rfl⟩; clear D42))
  go_still_tail 5, (by kernel_rfl)
  go_wp2_with (first | (go_at_call 41; refine (C41m.out _ _ X5.out.drew (HSDE.out.ext X5.out.drew)).mono ?_; rintro e w7 ⟨rm, rfl, hrm, hx7⟩; obtain ⟨vm, hvm, hEm⟩ := hrm; obtain ⟨VM, nm, rfl, hnm1, hnm2, -⟩ := own_form hvm; have D42 := Lib.hid (f42_calls w7 VM nm vm Lm (rowAt.of_own (B := B) hvm) hEm (fun x hx => by have := HLM.out x hx; rw [big_is]; omega) (by rw [big_is]; omega) (by rw [big_is]; omega) hnm1 hnm2); have X7 := Lib.hid (X5.out.drew.trans hx7); have S7 := Lib.hid (S5.out.drew.ext hx7); obtain ⟨q4, q5, q6⟩ := (H1.out.ext X7.out).rules; obtain ⟨s4, s5, s6⟩ := S7.out.rules; unfold VtCells at q4; have D43 := Lib.hid (f43_calls w7 v p dp g l VM nm vm w5.drew.heap.size Lm (HV.out.ext X7.out) (Nat.le_trans hB X7.out.size) HC.out HD.out hvm hEm (fun x hx k hk => by obtain ⟨y, hy⟩ := HFAR.out.2; have hy7 := X7.out.cell hy; rw [hx] at hy7; cases hy7; have := HFAR.out.1 _ hy k hk; have := X5.out.size; simp; omega) HLM.out (by omega) hw hn); clear hvm hEm hx7 q1 q2 q3 s1 s2 s3 S5 C41m) | (go_at_call 42; refine D42.out.mono ?_; rintro e w8 ⟨rfl, rfl⟩; clear D42) | (go_at_call 43; refine D43.out.mono ?_; rintro e w8 ⟨rfl, hv8, hm8⟩; have S8 := Lib.hid (S7.out.mut hm8 (by simp)); have V8 := Lib.hid hv8; have M8 := Lib.hid hm8; have hB8 := Nat.le_trans (Nat.le_trans hB X7.out.size) hm8.size; have D46 := Lib.hid (f46_calls w8 _ l' ((HU.out.ext X7.out).mut hm8 (by simp) (by simp)) hB8 HBB.out.1 HBB.out.2.1 HBB.out.2.2); obtain ⟨s1, s2, s3⟩ := S8.out.rules; clear hv8 hm8 q4 q5 q6 s4 s5 s6 D43) | (go_at_call 46; refine D46.out.mono ?_; rintro e w9 ⟨v9, rfl, hl9, hx9⟩; obtain ⟨sd9, ev9, rfl, g1, g2, g3⟩ := hl9.form; obtain ⟨A9, c9, rfl, -, -, -, -⟩ := g1.form; obtain ⟨E9, d9, _, rfl, -, -, -, -, -⟩ := g2.form; have V9 := Lib.hid (V8.out.ext hx9); obtain ⟨_, _, y1, y2, -⟩ := V9.out.form; obtain ⟨q1, q2, q3⟩ := y1.rules; unfold VtCells at q1; have X9 := Lib.hid hx9; have GG := Lib.hid (And.intro g1 (And.intro g2 g3)); clear hl9 hx9 g1 g2 g3 y1 y2 s1 s2 s3 D46))
  go_ret
  obtain ⟨t1, t2⟩ := V9.out.turn6 GG.out.1 GG.out.2.1 GG.out.2.2
  refine ⟨rfl, t1, ?_⟩
  have m7 : Mut B [91, 93, 95, 97, 25, 3, 74] w w7 := Ext.mut X7.out
  have m8 : Mut B [91, 93, 95, 97, 25, 3, 74] w7 w8 := M8.out.mono (by simp)
  have m9 : Mut B [91, 93, 95, 97, 25, 3, 74] w8 w9 := Ext.mut X9.out
  exact ((m7.trans m8).trans m9).trans (t2.mono (by simp))
end Go.Proofs.YtpjodgoljocnlaaGreatDoor
