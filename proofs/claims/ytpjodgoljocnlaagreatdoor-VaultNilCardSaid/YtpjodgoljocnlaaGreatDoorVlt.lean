/- The vault: what it is; read and Open where nothing was written. -/
import Derived.Test.YtpjodgoljocnlaaGreatDoorOpenW
import Derived.Test.YtpjodgoljocnlaaGreatDoorBack0
import Derived.Test.YtpjodgoljocnlaaGreatDoorSync
namespace Go.Proofs.YtpjodgoljocnlaaGreatDoor
open Go Go.RowKit
variable {B e' : Nat}
def VtCells (p : Nat) (l : Lg) (sd ev : Value) : Array Value := #[.pointer (some ⟨p, 0, none⟩), .int .u64 l.term, .int .i64 l.vote, .int .u64 l.six, .int .u64 l.sterm, sd, ev]
def VaultAt (B : Nat) (w : World) (v p dp : Nat) (g : Wg) (l : Lg) : Prop :=
  ∃ sd ev, Blk w v 74 (VtCells p l sd ev) ∧ B ≤ v ∧ IsBytes B w sd l.sdata ∧ IsEnts B w ev l.ents ∧ l.Fit ∧ LogAt B w p dp g
theorem VaultAt.form {w : World} {v p dp : Nat} {g : Wg} {l : Lg} (h : VaultAt B w v p dp g l) : ∃ sd ev, Blk w v 74 (VtCells p l sd ev) ∧ B ≤ v ∧ IsBytes B w sd l.sdata ∧ IsEnts B w ev l.ents ∧ l.Fit ∧ LogAt B w p dp g := h
theorem VaultAt.log {w : World} {v p dp : Nat} {g : Wg} {l : Lg} (h : VaultAt B w v p dp g l) : LogAt B w p dp g := by obtain ⟨_, _, _, _, _, _, _, h⟩ := h.form; exact h
theorem VaultAt.mut {T : List Nat} {w w' : World} {v p dp : Nat} {g : Wg} {l : Lg} (h : VaultAt B w v p dp g l) (he : Mut B T w w') (hT : ∀ t, t ∈ [91, 93, 95, 97, 25, 5, 3, 74, 50] → t ∉ T) : VaultAt B w' v p dp g l := by
  obtain ⟨sd, ev, h1, h2, h3, h4, h5, h6⟩ := h
  exact ⟨sd, ev, h1.mut he (hT _ (by simp)), h2, h3.mut he (hT _ (by simp)), h4.mut he (hT _ (by simp)) (hT _ (by simp)), h5, h6.mut he (fun t ht => hT t (by simp only [List.mem_cons, List.not_mem_nil, or_false] at ht ⊢; omega))⟩
theorem VaultAt.ext {w w' : World} {v p dp : Nat} {g : Wg} {l : Lg} (h : VaultAt B w v p dp g l) (he : Ext w w') : VaultAt B w' v p dp g l := h.mut (T := []) he.mut (by simp)
/-- the wal's log has turned -/
theorem VaultAt.wal {T : List Nat} {w w' : World} {v p dp : Nat} {g g' : Wg} {l : Lg} (h : VaultAt B w v p dp g l) (he : Mut B T w w') (hl : LogAt B w' p dp g') (hT : ∀ t, t ∈ [5, 74, 50] → t ∉ T) : VaultAt B w' v p dp g' l := by
  obtain ⟨sd, ev, h1, h2, h3, h4, h5, h6⟩ := h
  exact ⟨sd, ev, h1.mut he (hT _ (by simp)), h2, h3.mut he (hT _ (by simp)), h4.mut he (hT _ (by simp)) (hT _ (by simp)), h5, hl⟩
def lg0 : Lg := ⟨0, 0, 0, 0, [], []⟩
theorem lg0_fit : lg0.Fit := ⟨by simp [lg0], by simp [lg0], by simp [lg0], by simp [lg0], by simp [lg0]⟩
set_option maxRecDepth 100000 in
set_option maxHeartbeats 2000000 in
theorem f33_none (w : World) (v p dp : Nat) (g : Wg) (l : Lg) (h : VaultAt B w v p dp g l) (hr : g.recs = []) (hB : B ≤ w.heap.size) :
    Calls Tryz.prog 33 #[.pointer (some ⟨v, 0, none⟩)] w fun e w' => e = .returned (.tuple #[.int .u64 g.first, .int .u64 g.first, .nilIface]) ∧ Ext w w' := by
  obtain ⟨sd, ev, h1, h2, h3, h4, h5, h6⟩ := h.form
  obtain ⟨r1, r2, r3⟩ := h1.rules
  unfold VtCells at r1
  have c52 := fun W (hx : Ext w W) => f52_calls W p dp g (h6.ext hx)
  have c53 := fun W (hx : Ext w W) => f53_calls W p dp g (h6.ext hx) (Nat.le_trans hB hx.size)
  rw [hr] at c53
  have C52 := Lib.hid c52
  have C53 := Lib.hid c53
  clear h h1 h3 h4 h5 h6 hr c52 c53
  go_enter Tryz.func33, Tryz.ntmps33
  go_wp2_with (first | (go_at_call 52; refine (C52.out _ Ext.rfl').mono ?_; rintro e w' ⟨rfl, rfl⟩) | (go_at_call 53; refine (C53.out _ ?_).mono ?_; (repeat (first | exact Ext.rfl' | refine Ext.alloc ?_ _)); rintro e w2 ⟨rv, rs, rfl, hr2, hx2⟩; obtain ⟨V, vc, hV, -, -, -⟩ := own_form hr2.row; subst hV; have HX2 := Lib.hid (((Ext.rfl' (w := w)).alloc _).trans hx2); clear hx2 hr2))

  go_loopg [5, 7, 26] 0 (fun m fv lv iv wr => m = 0 ∧ fv = .int .u64 g.first ∧ lv = .int .u64 g.first ∧ iv = .int .i64 0 ∧ w2 = wr)
  case atStart => exact ⟨rfl, rfl, rfl, rfl, rfl⟩
  case round =>
    obtain ⟨hgk, rfl, rfl, rfl, rfl⟩ := hrel
    clear hgk
    go_wp2
    go_ret3
    exact ⟨rfl, HX2.out⟩
def g1 (n : Nat) : Wg := telG (freshG (zeroDisk n)) 0
theorem g1_first (n : Nat) : (g1 n).first = 0 := rfl
theorem g1_recs (n : Nat) : (g1 n).recs = [] := rfl
theorem g1_next (n : Nat) : (g1 n).next = 0 := rfl
theorem g1_cut (n : Nat) : cutG (g1 n) 0 = g1 n := by
  unfold cutG
  rw [if_pos (g1_first n).symm]
  unfold syncG
  rw [if_neg]
  show ¬ (false = true)
  simp
theorem g1_calm (n : Nat) : Calm (g1 n).d := Calm.tel (g := freshG (zeroDisk n)) ⟨rfl, rfl⟩ 0
set_option maxRecDepth 100000 in
set_option maxHeartbeats 2000000 in
theorem f14_fresh (w : World) (dp n : Nat) (h : DiskAt B w dp (zeroDisk n)) (hn : 3 ≤ n) (hn2 : n ≤ 65536) (hB : B ≤ w.heap.size) :
    Calls Tryz.prog 14 #[.pointer (some ⟨dp, 0, none⟩)] w fun e w' => ∃ v p, e = .returned (.tuple #[.pointer (some ⟨v, 0, none⟩), .nilIface]) ∧ VaultAt B w' v p dp (g1 n) lg0 ∧ Mut B [91, 93, 95, 97] w w' := by
  have C31 := Lib.hid (f31_fresh w dp n h hn hn2 hB)
  have H := Lib.hid h
  clear h
  go_enter Tryz.func14, Tryz.ntmps14
  go_wp2_with (first | (go_at_call 31; refine C31.out.mono ?_; rintro e w1 ⟨p, rfl, hl1, hm1⟩; have HL1 := Lib.hid hl1; have HM1 := Lib.hid hm1; clear C31 hl1 hm1))
  have hb1 : Blk (w1.alloc (.cells #[.pointer (some ⟨p, 0, none⟩), .int .u64 0, .int .i64 0, .int .u64 0, .int .u64 0, .slice none 0 0, .slice none 0 0] 74)) w1.heap.size 74 (VtCells p lg0 (.slice none 0 0) (.slice none 0 0)) := Blk.new w1 74 _
  have hx : Ext w1 (w1.alloc (.cells #[.pointer (some ⟨p, 0, none⟩), .int .u64 0, .int .i64 0, .int .u64 0, .int .u64 0, .slice none 0 0, .slice none 0 0] 74)) := Ext.rfl'.alloc _
  generalize (w1.alloc (.cells #[.pointer (some ⟨p, 0, none⟩), .int .u64 0, .int .i64 0, .int .u64 0, .int .u64 0, .slice none 0 0, .slice none 0 0] 74)) = w2 at *
  have hv : VaultAt B w2 w1.heap.size p dp (g1 n) lg0 := ⟨_, _, hb1, Nat.le_trans hB HM1.out.size, IsBytes.nil _, IsSlice.nil, lg0_fit, HL1.out.ext hx⟩
  have hB2 : B ≤ w2.heap.size := Nat.le_trans (Nat.le_trans hB HM1.out.size) hx.size
  have C33 := f33_none w2 _ p dp _ _ hv (g1_recs n) hB2
  rw [g1_first, show ((0 : Nat) : Int) = 0 from rfl] at C33
  have C33 := Lib.hid C33
  have c35 := fun W (hw : Ext w2 W) => f35_next W p dp 0 (g1 n) (hv.log.ext hw) rfl (g1_calm n).up (g1_next n).symm
  have c36 := fun W (hw : Ext w2 W) => f36_calls W p dp 0 (g1 n) (hv.log.ext hw) (Nat.le_trans hB2 hw.size) (g1_calm n) rfl (by rw [huge_is]; show 1 < _; omega) (Nat.le_of_eq (g1_first n)) (Nat.zero_le _)
  rw [g1_cut] at c36
  rw [show ((0 : Nat) : Int) = 0 from rfl] at c35 c36
  have C35 := Lib.hid c35
  have C36 := Lib.hid c36
  have HV := Lib.hid hv
  have HX := Lib.hid hx
  generalize w1.heap.size = v at *
  clear hb1 hx hv c35 c36
  go_wp2_with (first | (go_at_call 33; refine C33.out.mono ?_; rintro e w3 ⟨rfl, hx3⟩; have HX3 := Lib.hid hx3; clear hx3 C33) | (go_at_call 35; refine (C35.out _ HX3.out).mono ?_; rintro e w4 ⟨rfl, rfl⟩; clear C35) | (go_at_call 36; refine (C36.out _ HX3.out.drew.drew).mono ?_; rintro e w4 ⟨rfl, hl4, hm4⟩; have HL4 := Lib.hid hl4; have HM4 := Lib.hid hm4; clear C36 hl4 hm4))
  go_ret2
  refine ⟨v, p, rfl, (HV.out.ext HX3.out.drew.drew).wal HM4.out HL4.out (by simp), ?_⟩
  exact (HM1.out.ext (HX.out.trans HX3.out.drew.drew)).trans HM4.out
end Go.Proofs.YtpjodgoljocnlaaGreatDoor
