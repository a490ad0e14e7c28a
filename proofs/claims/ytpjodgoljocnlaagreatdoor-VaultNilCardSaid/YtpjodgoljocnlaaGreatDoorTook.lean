/- The log of records: met, Records, took, Ring. -/
import Derived.Test.YtpjodgoljocnlaaGreatDoorWal
namespace Go.Proofs.YtpjodgoljocnlaaGreatDoor
open Go Go.RowKit
variable {B e' : Nat}
set_option maxRecDepth 100000 in
set_option maxHeartbeats 1000000 in
theorem f61_calls (w : World) (p dp : Nat) (g : Wg) (h : LogAt B w p dp g) :
    Calls Tryz.prog 61 #[.pointer (some ⟨p, 0, none⟩), .int .i64 0] w fun e w' => e = .returned (.int .i64 0) ∧ LogAt B w' p dp g ∧ Mut B [97] w w' ∧ RecFar p w w' := by
  obtain ⟨rv, vs, pv, b1, b2, b3, b4, b5, b6⟩ := h.form
  obtain ⟨r1, r2, r3⟩ := b1.rules
  have B1 := Lib.hid b1
  have B3 := Lib.hid b3
  have B4 := Lib.hid b4
  have B5 := Lib.hid b5
  have B6 := Lib.hid b6
  clear h b1 b3 b4 b5 b6
  unfold WgCells at r1
  have hd : ∃ x, g.dead = x := ⟨_, rfl⟩
  obtain ⟨x, hx⟩ := hd
  rw [hx] at r1
  have HX := Lib.hid hx
  clear hx
  have key : LogAt B (w.setCell ⟨p, 1, none⟩ (.bool x)) p dp g ∧ Mut B [97] w (w.setCell ⟨p, 1, none⟩ (.bool x)) ∧ RecFar p w (w.setCell ⟨p, 1, none⟩ (.bool x)) := by
    have m : Mut B [97] w (w.setCell ⟨p, 1, none⟩ (.bool x)) := (Mut.rfl' (w := w)).put B1.out (by simp) b2 1 none (.bool x)
    have hb := B1.out.set_ 1 (.bool x)
    have e1 : (WgCells dp g rv pv).setIfInBounds 1 (.bool x) = WgCells dp g rv pv := by rw [← HX.out]; rfl
    rw [e1] at hb
    exact ⟨⟨rv, vs, pv, hb, b2, B3.out.mut m (by simp) (by simp) (by simp), B4.out.mut m (by simp) (by simp), own_mut B5.out m (by simp), B6.out⟩, m, RecFar.put B1.out (by omega) _⟩
  have K := Lib.hid key
  clear key
  cases x <;> (
    go_enter Tryz.func61, Tryz.ntmps61
    go_wp2_with (go_at_call 92; refine (f92_errno _ _ _).mono ?_; rintro e w' ⟨rfl, rfl⟩)
    go_ret
    exact ⟨rfl, K.out⟩)
set_option maxRecDepth 100000 in
set_option maxHeartbeats 1000000 in
theorem f40_calls (w : World) (p dp : Nat) (g : Wg) (h : LogAt B w p dp g) :
    Calls Tryz.prog 40 #[.pointer (some ⟨p, 0, none⟩)] w fun e w' => e = .returned (.tuple #[.int .i64 g.ring, .int .i64 g.used]) ∧ w' = w.drew := by
  obtain ⟨rv, vs, pv, b1, b2, b3, b4, b5, b6⟩ := h.form
  obtain ⟨r1, -, -⟩ := b1.rules
  have C := f70_calls w p dp g h
  have C1 := Lib.hid C
  have C' := f70_calls w.drew p dp g (h.ext Ext.rfl'.drew)
  have C2 := Lib.hid C'
  clear h b1 b3 b4 b5 b6 C C'
  unfold WgCells at r1
  have hm : max (g.ring : Int) 0 = g.ring := by omega
  go_enter Tryz.func40, Tryz.ntmps40
  go_wp2
  refine wp_region_still_lit (by kernel_rfl) (by kernel_rfl) ?_
  repeat (first | still_call (C2.out.mono fun e w' h => ⟨h.1, h.2.symm⟩) | still_step)
  refine wpStill_nil ?_
  go_wp2
  go_ret2
  exact ⟨rfl, rfl⟩
/-- a record more -/
def tookG (g : Wg) (b : List UInt8) : Wg :=
  { g with recs := g.recs ++ [b], places := g.places ++ [g.fin], fin := (g.fin + secs b.length) % g.ring, used := g.used + secs b.length }
theorem secs_pos (n : Nat) : 1 ≤ secs n := by unfold secs; omega
theorem tookG_ok {g : Wg} {b : List UInt8} (h : g.Ok) (hb : b.length ≤ 32768) (hn : g.first + g.recs.length < huge) (hu : g.used + secs b.length ≤ g.ring) : (tookG g b).Ok := by
  have := secs_pos b.length
  refine ⟨h.ring, h.turn, ?_, hu, Nat.mod_lt _ (Nat.lt_of_le_of_lt (Nat.zero_le _) h.fin), ?_, ?_, ?_, ?_, ?_⟩
  · simp [tookG]; omega
  · simp [tookG, h.len]
  · intro x hx
    simp only [tookG, List.mem_append, List.mem_singleton] at hx
    rcases hx with hx | rfl
    · exact h.pl x hx
    · exact h.fin
  · intro x hx
    simp only [tookG, List.mem_append, List.mem_singleton] at hx
    rcases hx with hx | rfl
    · exact h.rcs x hx
    · exact hb
  · simp only [tookG, List.length_append, List.length_singleton]
    have := h.few
    omega
  · simp only [tookG, sumSecs_append, sumSecs_one]
    rw [← h.sum]
set_option maxRecDepth 100000 in
set_option maxHeartbeats 1000000 in
theorem f79_calls (w : World) (p dp : Nat) (g : Wg) (v : Value) (b : List UInt8) (h : LogAt B w p dp g) (hv : IsBytes B w v b) (hb : b.length ≤ 32768) (hn : g.first + g.recs.length < huge) (hu : g.used + secs b.length ≤ g.ring) :
    Calls Tryz.prog 79 #[.pointer (some ⟨p, 0, none⟩), v] w fun e w' => e = .returned (.tuple #[]) ∧ LogAt B w' p dp (tookG g b) ∧ Mut B [97, 25, 3] w w' ∧ RecFar p w w' := by
  obtain ⟨rv, vs, pv, b1, b2, b3, b4, b5, b6⟩ := h.form
  obtain ⟨A, c, rfl, q1, q2, q3, q4⟩ := hv.form
  obtain ⟨i1, hi1, hz1, hs1, hy1⟩ := info_parts Tryz.info25
  obtain ⟨i2, hi2, hz2, hs2, hy2⟩ := info_parts Tryz.info3
  obtain ⟨V, vc, hV, -, -, -⟩ := own_form b4.row
  subst hV
  obtain ⟨U, uc, hU, -, -, -⟩ := own_form b5
  subst hU
  obtain ⟨r1, r2, r3⟩ := b1.rules
  have C := f58_calls w b.length (by rw [big_is]; omega)
  have C1 := Lib.hid C
  unfold WgCells at r1
  have hdk : g.d.kept.length ≤ 65536 := by obtain ⟨_, _, _, _, _, _, _, hk⟩ := b3.form; exact hk.hi
  have hfew := b6.few
  have hus := b6.used
  have hrg : g.ring ≤ 65536 := by unfold Wg.ring; omega
  have hr1 := b6.fin
  have hrz2 : g.ring ≠ 0 := by omega
  have hwr : IntKind.i64.wrap ((g.fin : Int) + (secs b.length : Int)) = (g.fin : Int) + (secs b.length : Int) := IntWalk.i64_in _ ⟨by omega, by omega⟩
  have hwm : ((g.fin : Int) + (secs b.length : Int)).tmod (g.ring : Int) = (((g.fin + secs b.length) % g.ring : Nat) : Int) := by rw [Int.tmod_eq_emod_of_nonneg (by omega)]; simp
  have HPL := Lib.hid b6.len
  have hpq : g.places.length ≤ 65536 := by have := b6.len; omega
  have H := Lib.hid h
  have HV := Lib.hid hv
  have B1 := Lib.hid b1
  have B3 := Lib.hid b3
  have B4 := Lib.hid b4
  have B5 := Lib.hid b5
  have B6 := Lib.hid b6
  clear h hv q4 C b1 b3 b4 b5 b6
  go_enter Tryz.func79, Tryz.ntmps79
  go_wp2_with (first | (go_at_call 58; refine C1.out.mono ?_; rintro e w' ⟨rfl, rfl⟩) | (at_builtin; refine wpl_append (B := B) (e' := 25) _ rfl (.tmp 12) (.tmp 14) 44 rfl B 25 i1 _ 1 24 Tryz.underlying44 hi1 hz1 hs1 hy1 rfl (by omega) _ g.recs.length vs rfl ?o1 _ 1 1 [.slice A b.length c] rfl rfl ?o2 (by simp [Value.oneCell']) ?o3 ?o4 ?o5 ?o6))
  case o1 => exact own_ext B4.out.row (Ext.rfl'.alloc _)
  case o2 => exact row_new _ _
  case o3 => unfold maxLen; omega
  case o4 => omega
  case o5 => simp; omega
  case o6 =>
    intro v1 w1 hown1 hg1 ha1
    obtain ⟨V1, vc1, hV1, -, -, -⟩ := own_form hown1
    subst hV1
    have hro := own_ext B4.out.row (Ext.rfl'.alloc (.cells #[.slice A b.length c] 25))
    have m1 : Mut B [25] w w1 := Mut.grown (Mut.rfl'.alloc _) hro hg1 (by simp) (Nat.le_refl _)
    have p1 := B1.out.mut m1 (by simp)
    obtain ⟨x1, x2, x3⟩ := p1.rules
    have far1 : ∀ k ce fr, w.heap[k]? = some (.cells ce 25 fr) → (Value.slice V g.recs.length vc).ownBlock ≠ some k → w1.heap[k]? = w.heap[k]? := fun k ce fr hk hne => by
      have hlt := (Array.getElem?_eq_some_iff.1 hk).1
      exact (hg1.by_.block k (by simp; omega) (fun e => hne e.symm)).trans (Below.heap_alloc w _ k hlt)
    have hat : ∀ k, (Value.slice V1 (g.recs.length + 1) vc1).ownBlock = some k → k < w.heap.size → (Value.slice V g.recs.length vc).ownBlock = some k := fun k hk hlt => by
      rcases ha1 with ha | ha
      · rw [← ha]; exact hk
      · rw [hk] at ha; injection ha with ha; omega
    have hp4 : Blk (w1.setCell ⟨p, 4, none⟩ (.slice V1 (g.recs.length + 1) vc1)) p 97 #[.pointer (some ⟨dp, 0, none⟩), .bool g.dead, .int .u64 g.turn, .int .u64 g.first, .slice V1 (g.recs.length + 1) vc1, .slice U g.places.length uc, .int .i64 g.fin, .int .i64 g.used, .bool g.waits] := p1.set_ 4 (.slice V1 (g.recs.length + 1) vc1)
    have m2 : Mut B [97, 25] w (w1.setCell ⟨p, 4, none⟩ (.slice V1 (g.recs.length + 1) vc1)) := (m1.mono (by simp)).put B1.out (by simp) b2 4 none _
    have own2 : (w1.setCell ⟨p, 4, none⟩ (.slice V1 (g.recs.length + 1) vc1)).ownsRow B 25 1 (.slice V1 (g.recs.length + 1) vc1) (g.recs.length + 1) (vs ++ [.slice A b.length c]) :=
      own_mut (T := [97]) hown1 ((Mut.rfl' (w := w1)).put p1 (by simp) b2 4 none _) (by simp)
    have rf2 : RecFar p w (w1.setCell ⟨p, 4, none⟩ (.slice V1 (g.recs.length + 1) vc1)) := by
      refine ⟨fun k ce fr hk hne => ?_, fun v' hv' k hk hlt => ?_⟩
      · have h1 := far1 k ce fr hk (hne _ (by rw [B1.out.rules.1]; rfl))
        refine (Below.heap_setCell w1 _ _ k ?_).trans h1
        rintro rfl
        have := B1.out
        unfold Blk at this
        rw [this] at hk
        cases hk
      · rw [hp4.rules.1] at hv'
        simp at hv'
        subst hv'
        exact ⟨_, by rw [B1.out.rules.1]; rfl, hat k hk hlt⟩
    have HP := Lib.hid hp4
    have M2 := Lib.hid m2
    have O2 := Lib.hid own2
    have RF := Lib.hid rf2
    have e0 := hg1.by_.size
    have e1 : B ≤ w1.heap.size := by simp at e0; omega
    clear hro m1 p1 far1 hat hp4 m2 own2 rf2 hown1 hg1 ha1 r1 r2 r3 e0
    unfold WgCells at x1
    go_wp2
    generalize hw2 : w1.setCell ⟨p, 4, none⟩ (.slice V1 (g.recs.length + 1) vc1) = w2 at *
    have HW2 := Lib.hid hw2
    clear hw2 x1 x2 x3
    have hsz : w1.heap.size = w2.heap.size := by rw [← HW2.out]; simp [World.setCell]
    obtain ⟨x1, x2, x3⟩ := HP.out.rules
    have N0 := Lib.hid (own_ext (own_mut B5.out M2.out (by simp)) ((Ext.rfl'.alloc (.cells #[.int .i64 (g.fin : Int)] 3)).drew))
    have N1 := Lib.hid (show rowAt B 3 ((w2.alloc (.cells #[.int .i64 (g.fin : Int)] 3)).drew) (some ⟨w2.heap.size, 0, none⟩) [.int .i64 (g.fin : Int)] from row_new w2 [.int .i64 (g.fin : Int)])
    have N3 := Lib.hid (show ∀ u ∈ [Value.int .i64 (g.fin : Int)], u.oneCell' = true by simp [Value.oneCell'])
    have N4 := Lib.hid (show g.places.length + 1 ≤ maxLen by simp only [maxLen]; omega)
    have N5 := Lib.hid (show (g.places.length + 1) * 8 ≤ 140737488355328 by omega)
    have N6 := Lib.hid (show B ≤ ((w2.alloc (.cells #[.int .i64 (g.fin : Int)] 3)).drew).heap.size by simp; omega)
    go_region_law (
      (refine step_append (B := B) (e' := 3) _ (by rfl) (.tmp 22) (.tmp 27) 53 (by rfl) B 3 i2 _ 1 8 Tryz.underlying53 hi2 hz2 hs2 hy2 (by rfl) (by omega) (.slice U g.places.length uc) g.places.length (intsV g.places) (by rfl) N0.out (some ⟨w2.heap.size, 0, none⟩) 1 1 [.int .i64 (g.fin : Int)] (by rfl) (by rfl) N1.out N3.out N4.out N5.out N6.out ?_; intro v3 w3 hown3 hg3 ha3; obtain ⟨V3, vc3, rfl, -, -, -⟩ := own_form hown3; obtain ⟨y1, y2, y3⟩ := (HP.out.mut (Mut.grown ((Mut.rfl'.alloc _).drew) N0.out hg3 (by simp) (Nat.le_refl _) : Mut B [3] w2 w3) (by simp)).rules))
    all_goals
      have m3 : Mut B [3] w2 w3 := Mut.grown ((Mut.rfl'.alloc _).drew) N0.out hg3 (by simp) (Nat.le_refl _)
      have p3 := HP.out.mut m3 (by simp)
      have m3' : Mut B [97] w3 (w3.setCell ⟨p, 5, none⟩ (.slice V3 (g.places.length + 1) vc3)) := (Mut.rfl' (w := w3)).put p3 (by simp) b2 5 none _
      have hp4 : Blk (w3.setCell ⟨p, 5, none⟩ (.slice V3 (g.places.length + 1) vc3)) p 97 #[.pointer (some ⟨dp, 0, none⟩), .bool g.dead, .int .u64 g.turn, .int .u64 g.first, .slice V1 (g.recs.length + 1) vc1, .slice V3 (g.places.length + 1) vc3, .int .i64 g.fin, .int .i64 g.used, .bool g.waits] := p3.set_ 5 _
      have own4 := own_mut hown3 m3' (by simp)
      have own5 := own_mut (own_mut O2.out m3 (by simp)) m3' (by simp)
      have m4 : Mut B [97, 25, 3] w (w3.setCell ⟨p, 5, none⟩ (.slice V3 (g.places.length + 1) vc3)) := ((M2.out.mono (T' := [97, 25, 3]) (by simp)).trans (m3.mono (T' := [97, 25, 3]) (by simp))).trans (m3'.mono (by simp))
      have rf4 : RecFar p w (w3.setCell ⟨p, 5, none⟩ (.slice V3 (g.places.length + 1) vc3)) := (RF.out.trans (RecFar.of_mut m3 HP.out (by simp) (by simp)) M2.out.size).trans (RecFar.put p3 (by omega) _) (Nat.le_trans M2.out.size m3.size)
      have HP4 := Lib.hid hp4
      have O4 := Lib.hid own4
      have O5 := Lib.hid own5
      have M4 := Lib.hid m4
      have RF4 := Lib.hid rf4
      clear m3 p3 m3' hp4 own4 own5 m4 rf4 hg3 hown3 ha3 y1 y2 y3 x1 x2 x3
      go_wp2
      generalize hw4 : w3.setCell ⟨p, 5, none⟩ (.slice V3 (g.places.length + 1) vc3) = w4 at *
      clear hw4
      obtain ⟨x1, x2, x3⟩ := HP4.out.rules
      have D4 := Lib.hid (B3.out.mut M4.out (by simp) (by simp) (by simp))
      have C7 : Hid (Calls Tryz.prog 70 #[.pointer (some ⟨p, 0, none⟩)] w4.drew fun e w' => e = .returned (.int .i64 g.ring) ∧ w' = w4.drew) := Lib.hid (f70_of (B := B) w4.drew p dp g.d ((x1 0).trans rfl) (D4.out.ext Ext.rfl'.drew) B6.out.ring)
      refine wp_region_tail 11 (by kernel_rfl) (by kernel_rfl) ?_
      simp only [List.take_succ_cons, List.take_zero, List.drop_succ_cons, List.drop_zero]
      repeat (first | still_call C7.out | still_step)
      refine wpStill_nil ?_
      go_wp2
      have hq1 : ((g.fin : Int) + (secs b.length : Int)) % (g.ring : Int) = (((g.fin + secs b.length) % g.ring : Nat) : Int) := by simp
      have hq2 : (g.used : Int) + (secs b.length : Int) = ((g.used + secs b.length : Nat) : Int) := by simp
      rw [hq1, hq2]
      go_end0
      have n1 := HP4.out.set_ 6 (.int .i64 (((g.fin + secs b.length) % g.ring : Nat) : Int))
      have n2 := n1.set_ 7 (.int .i64 ((g.used + secs b.length : Nat) : Int))
      have k1 : Mut B [97] w4 (w4.setCell ⟨p, 6, none⟩ (.int .i64 (((g.fin + secs b.length) % g.ring : Nat) : Int))) := (Mut.rfl' (w := w4)).put HP4.out (by simp) b2 6 none _
      have k2 := (k1.put HP4.out (by simp) b2 7 none (.int .i64 ((g.used + secs b.length : Nat) : Int))).drew
      have k3 := (M4.out.trans (k2.mono (T' := [97, 25, 3]) (by simp)))
      refine ⟨rfl, ⟨_, vs ++ [.slice A b.length c], _, n2.drew, b2, D4.out.mut k2 (by simp) (by simp) (by simp), ⟨?_, ?_⟩, ?_, tookG_ok B6.out hb hn hu⟩, k3, ?_⟩
      · have := own_mut O5.out k2 (by simp)
        simpa [tookG] using this
      · exact (B4.out.each.ext (RecR.mut k3 (by simp))).append (Each.one ⟨_, rfl, HV.out.mut k3 (by simp)⟩)
      · have := own_mut O4.out k2 (by simp)
        simpa [tookG, intsV] using this
      · exact ((RF4.out.trans (RecFar.put HP4.out (by omega) _) M4.out.size).trans (RecFar.put n1 (by omega) _) (M4.out.trans (k1.mono (T' := [97, 25, 3]) (by simp))).size).trans (RecFar.of_mut (B := B) (T := []) (Ext.rfl'.drew).mut n2 (by simp) (by simp)) (M4.out.trans ((k1.put HP4.out (by simp) b2 7 none _).mono (T' := [97, 25, 3]) (by simp))).size
end Go.Proofs.YtpjodgoljocnlaaGreatDoor
