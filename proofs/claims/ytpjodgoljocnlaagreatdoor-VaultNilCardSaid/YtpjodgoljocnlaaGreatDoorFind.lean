/- wal.find of a head that says nothing; wal.Back of nothing. -/
import Derived.Test.YtpjodgoljocnlaaGreatDoorHead
namespace Go.Proofs.YtpjodgoljocnlaaGreatDoor
open Go Go.RowKit
variable {B e' : Nat}
def freshG (d : Dk) : Wg := ⟨d, false, 0, 0, [], [], 0, 0, false⟩
theorem freshG_ok {d : Dk} (h : 3 ≤ d.kept.length) : (freshG d).Ok :=
  ⟨h, by simp [freshG], by simp [freshG], by simp [freshG], by simp [freshG, Wg.ring]; omega, rfl, by simp [freshG], by simp [freshG], by simp [freshG], by simp [freshG, sumSecs]⟩
theorem LogAt.zero {w : World} {p dp : Nat} {d : Dk} (h : LogAt B w p dp (freshG d)) (o : Nat) (u : Value) (hou : (o = 2 ∨ o = 3) ∧ u = .int .u64 0 ∨ o = 6 ∧ u = .int .i64 0) :
    LogAt B (w.setCell ⟨p, o, none⟩ u) p dp (freshG d) ∧ Mut B [97] w (w.setCell ⟨p, o, none⟩ u) := by
  obtain ⟨rv, vs, pv, b1, b2, b3, b4, b5, b6⟩ := h.form
  have m : Mut B [97] w (w.setCell ⟨p, o, none⟩ u) := (Mut.rfl' (w := w)).put b1 (by simp) b2 o none u
  refine ⟨⟨rv, vs, pv, ?_, b2, b3.mut m (by simp) (by simp) (by simp), b4.mut m (by simp) (by simp), own_mut b5 m (by simp), b6⟩, m⟩
  have h1 := b1.set_ o u
  have e : (WgCells dp (freshG d) rv pv).setIfInBounds o u = WgCells dp (freshG d) rv pv := by
    rcases hou with ⟨rfl | rfl, rfl⟩ | ⟨rfl, rfl⟩ <;> rfl
  rwa [e] at h1
theorem LogAt.freshRules {w : World} {p dp : Nat} {d : Dk} (h : LogAt B w p dp (freshG d)) : ∃ rv pv, (∀ o, w.cell? ⟨p, o, none⟩ = #[.pointer (some ⟨dp, 0, none⟩), .bool false, .int .u64 0, .int .u64 0, rv, pv, .int .i64 0, .int .i64 0, .bool false][o]?) ∧ (∀ o, w.frozen? ⟨p, o, none⟩ = false) ∧ p < w.heap.size := by
  obtain ⟨rv, vs, pv, b1, b2, b3, b4, b5, b6⟩ := h.form
  exact ⟨rv, pv, b1.rules⟩
set_option maxRecDepth 100000 in
set_option maxHeartbeats 2000000 in
theorem f50_fresh (w : World) (p dp : Nat) (d : Dk) (h : LogAt B w p dp (freshG d)) :
    Calls Tryz.prog 50 #[.pointer (some ⟨p, 0, none⟩), .agg #[.int .u64 0, .int .u64 0, .int .u64 0, .int .u64 0, .int .u64 0]] w fun e w' => e = .returned (.int .i64 0) ∧ LogAt B w' p dp (freshG d) ∧ Mut B [97] w w' := by
  obtain ⟨rv, pv, r1, r2, r3⟩ := h.freshRules
  obtain ⟨_, _, _, _, _, _, _, _, b6⟩ := h.form
  have hr3 : 3 ≤ d.kept.length := b6.ring
  have hln : d.kept.length ≤ 65536 := h.len
  have hrd : (freshG d).ring = d.kept.length - 2 := rfl
  have c70 := fun W (hl : LogAt B W p dp (freshG d)) => f70_calls W p dp (freshG d) hl
  have c44 := fun W (hl : LogAt B W p dp (freshG d)) => f44_calls W p dp (freshG d) hl
  rw [hrd] at c70
  have hnx : (freshG d).next = 0 := rfl
  rw [hnx] at c44
  have C70 := Lib.hid c70
  have C44 := Lib.hid c44
  have HL := Lib.hid h
  have hring : decide (((d.kept.length - 2 : Nat) : Int) < 1) = false := decide_eq_false (by omega)
  have hring2 : decide (((d.kept.length - 2 : Nat) : Int) ≤ 0) = false := decide_eq_false (by omega)
  have hring3 : decide ((0 : Int) < ((d.kept.length - 2 : Nat) : Int)) = true := decide_eq_true (by omega)
  generalize hR : d.kept.length - 2 = R at *
  have HR := Lib.hid hR
  have hR2 : R ≤ 65536 := by omega
  have hR0 : ¬ R = 0 := by omega
  have hw0 : IntKind.i64.wrap 0 = 0 := IntWalk.i64_in _ ⟨by omega, by omega⟩
  clear h b6 c70 c44 hrd hnx hR
  go_enter Tryz.func50, Tryz.ntmps50
  go_wp2_with (go_at_call 70; refine (C70.out _ ((HL.out.zero 2 _ (.inl ⟨.inl rfl, rfl⟩)).1.ext (Ext.rfl'.alloc _))).mono ?_; rintro e w1 ⟨rfl, rfl⟩)
  go_region_with (fail)
  all_goals
    go_wp2
    have k2 := HL.out.zero 2 (.int .u64 0) (.inl ⟨.inl rfl, rfl⟩)
    have k3 := k2.1.zero 3 (.int .u64 0) (.inl ⟨.inr rfl, rfl⟩)
    have k6 := k3.1.zero 6 (.int .i64 0) (.inr ⟨rfl, rfl⟩)
    have hx := (Ext.rfl' (w := ((w.setCell ⟨p, 2, none⟩ (.int .u64 0)).setCell ⟨p, 3, none⟩ (.int .u64 0)).setCell ⟨p, 6, none⟩ (.int .i64 0))).alloc (.cells #[.int .u64 0, .int .u64 0, .int .u64 0, .int .u64 0, .int .u64 0] 99)
    have hl := k6.1.ext hx.drew
    have hm := ((k2.2.trans k3.2).trans k6.2).trans hx.drew.mut
    have hb := (Blk.new (((w.setCell ⟨p, 2, none⟩ (.int .u64 0)).setCell ⟨p, 3, none⟩ (.int .u64 0)).setCell ⟨p, 6, none⟩ (.int .i64 0)) 99 #[.int .u64 0, .int .u64 0, .int .u64 0, .int .u64 0, .int .u64 0]).drew
    rw [show (((w.setCell ⟨p, 2, none⟩ (.int .u64 0)).setCell ⟨p, 3, none⟩ (.int .u64 0)).setCell ⟨p, 6, none⟩ (.int .i64 0)).heap.size = w.heap.size by simp] at hb
    clear k2 k3 k6 hx
    generalize hwg : ((((w.setCell ⟨p, 2, none⟩ (.int .u64 0)).setCell ⟨p, 3, none⟩ (.int .u64 0)).setCell ⟨p, 6, none⟩ (.int .i64 0)).alloc (.cells #[.int .u64 0, .int .u64 0, .int .u64 0, .int .u64 0, .int .u64 0] 99)).drew = wg at *
    obtain ⟨x1, -, -⟩ := hb.rules
    have HL2 := Lib.hid hl
    have HM := Lib.hid hm
    clear hwg hl hm hb r1 r2 r3
    refine wp_loop_rounds 1 ?_
    rw [rounds_succ]
    go_wp2
    go_region_held3 (fun w' => w'.cell? ⟨w.heap.size, 2, none⟩ = some (.int .u64 0)) (go_keep) (first | (go_at_call 44; refine (C44.out _ (HL2.out.ext ?_)).mono ?_; (repeat (first | exact Ext.rfl' | refine Ext.drew ?_)); (rintro e w' ⟨rfl, rfl⟩)))
    all_goals
      go_wp2
      go_region_held3 (fun w' => w'.cell? ⟨w.heap.size, 2, none⟩ = some (.int .u64 0)) (go_keep) (first | (go_at_call 44; refine (C44.out _ (HL2.out.ext ?_)).mono ?_; (repeat (first | exact Ext.rfl' | refine Ext.drew ?_)); (rintro e w' ⟨rfl, rfl⟩)))
      all_goals
        go_wp2
        go_ret
        exact ⟨rfl, HL2.out.ext (by repeat (first | exact Ext.rfl' | refine Ext.drew ?_)), HM.out.ext (by repeat (first | exact Ext.rfl' | refine Ext.drew ?_))⟩
end Go.Proofs.YtpjodgoljocnlaaGreatDoor
