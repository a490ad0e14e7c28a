/- Which logs are right: vault.Right and armoireref07.Right say the same. -/
import Derived.Test.YtpjodgoljocnlaaGreatDoorLog
namespace Go.Proofs.YtpjodgoljocnlaaGreatDoor
open Go Go.RowKit
variable {B : Nat}
def rightEnts (six : Nat) (hterm : Nat) : Nat → Nat → List Ent → Bool
  | _, _, [] => true
  | i, t, e :: es => (e.index == (six + i + 1) % 18446744073709551616 && decide (t ≤ e.term) && decide (e.term ≤ hterm) && decide (e.data.length ≤ 32668)) && rightEnts six hterm (i+1) e.term es
theorem re_step {six h k t : Nat} {es : List Ent} (hk : k < es.length) : rightEnts six h k t (es.drop k) = ((es[k].index == (six + k + 1) % 18446744073709551616 && decide (t ≤ es[k].term) && decide (es[k].term ≤ h) && decide (es[k].data.length ≤ 32668)) && rightEnts six h (k+1) es[k].term (es.drop (k+1))) := by
  rw [List.drop_eq_getElem_cons hk]; rfl
theorem re_end {six h k t : Nat} {es : List Ent} (hk : es.length ≤ k) : rightEnts six h k t (es.drop k) = true := by
  rw [List.drop_eq_nil_of_le hk]; rfl
/-- the index that comes next, as the walk writes it -/
theorem next_wrap {a k : Nat} : IntKind.u64.wrap (IntKind.u64.wrap ((a : Int) + (k : Int)) + 1) = (((a + k + 1) % 18446744073709551616 : Nat) : Int) := by simp only [u64_wrap]; omega


set_option maxRecDepth 100000 in
set_option maxHeartbeats 1000000 in
theorem f27_calls (w : World) (u : Value) (l : Lg) (hu : IsLog B w u l) :
    Calls Tryz.prog 27 #[u] w fun e w' => e = .returned (.bool (rightEnts l.six l.term 0 (max l.sterm 1) l.ents)) ∧ Ext w w' := by
  obtain ⟨D, dc, E, ec, cs, rfl, ha1, ha2, hfit, hl1, hl2, hl3, hr, hE⟩ := hu.open_
  unfold maxLen at hl2 hl3
  obtain ⟨f1, f2, f3, f4, f5⟩ := hfit
  have hm : ∃ t0 : Nat, max l.sterm 1 = t0 ∧ t0 < 18446744073709551616 := ⟨_, rfl, by omega⟩
  obtain ⟨t0, hm, ht0⟩ := hm
  rw [hm]
  have HM := Lib.hid hm
  clear hm hu ha1 ha2
  go_enter Tryz.func27, Tryz.ntmps27
  go_wp2
  all_goals
    go_loopg [3, 13] l.ents.length (fun m tv iv wr => ∃ k t : Nat, k ≤ l.ents.length ∧ m = l.ents.length - k ∧ iv = .int .i64 k ∧ tv = .int .u64 t ∧ t < 18446744073709551616 ∧ Ext (w.alloc (lgBox l (.slice D l.sdata.length dc) (.slice E l.ents.length ec))) wr ∧ Hid (rightEnts l.six l.term k t (l.ents.drop k) = rightEnts l.six l.term 0 t0 l.ents))
    case atStart => 
      refine ⟨0, t0, Nat.zero_le _, by omega, rfl, ?_, ht0, Ext.rfl', Lib.hid (by simp)⟩
      have := HM.out
      rename_i h
      first
      | (have e : t0 = 1 := by omega
         rw [e]; rfl)
      | (have e : t0 = l.sterm := by omega
         rw [e])
    case round =>
      obtain ⟨k, t, hk, hgk, rfl, rfl, ht, hext, hrec⟩ := hrel
      have HG := Lib.hid hgk
      clear hgk
      have hb : ∀ o, wr.cell? ⟨w.heap.size, o, none⟩ = #[.int .u64 l.term, .int .i64 l.vote, .int .u64 l.six, .int .u64 l.sterm, .slice D l.sdata.length dc, .slice E l.ents.length ec][o]? := fun o => (Below.cell (p := ⟨w.heap.size, o, none⟩) hext (by simp)).trans (by simp)
      have hsz : w.heap.size < wr.heap.size := by have := hext.size; simp at this; omega
      by_cases hlt : k < l.ents.length
      · have hx0 : Ext w wr := (Ext.rfl'.alloc _).trans hext
        obtain ⟨b, o, e, rfl, hbs, e0, e1, e2, eb, et, ei⟩ := ent_at (hr.ext hx0) (hE.ext fun _ _ h => h.ext hx0) hlt
        obtain ⟨F, F', rfl, _⟩ := eb.form
        have HS := Lib.hid (re_step (six := l.six) (h := l.term) (t := t) hlt)
        have HB := Lib.hid hext
        have HX := Lib.hid hx0
        clear hext hx0 hr hE eb
        go_wp2
        all_goals first
          | (go_ret
             simp only [next_wrap] at *
             refine ⟨ret_bool ?_, HX.out.alloc _⟩
             rw [← hrec.out, HS.out, eq_comm, Bool.and_eq_false_iff]
             left
             simp
             intros
             omega)
          | (go_roundg (l.ents.length - (k + 1))
             case measure => rw [HG.out]; omega
             case rel =>
               simp only [next_wrap] at *
               refine ⟨k + 1, l.ents[k].term, by omega, rfl, by go_num, rfl, et, HB.out.alloc _, Lib.hid ?_⟩
               rw [← hrec.out, HS.out]
               have hc : (l.ents[k].index == (l.six + k + 1) % 18446744073709551616 && decide (t ≤ l.ents[k].term) && decide (l.ents[k].term ≤ l.term) && decide (l.ents[k].data.length ≤ 32668)) = true := by simp; omega
               rw [hc, Bool.true_and])
      · have hx0 : Ext w wr := (Ext.rfl'.alloc _).trans hext
        have HX := Lib.hid hx0
        clear hext hx0 hr hE
        go_wp2
        go_ret
        refine ⟨ret_bool ?_, HX.out⟩
        rw [← hrec.out, re_end (by omega)]

def rightC (l : Lg) : Prop := l.sterm ≤ l.term ∧ (l.six = 0 ↔ l.sterm = 0) ∧ l.six ≤ 4611686018427387904 ∧ l.sdata.length ≤ 32668 ∧ 0 ≤ l.vote ∧ l.vote ≤ 5
instance (l : Lg) : Decidable (rightC l) := by unfold rightC; infer_instance
def rightB (l : Lg) : Bool := decide (rightC l) && rightEnts l.six l.term 0 (max l.sterm 1) l.ents
theorem beq0 {n m : Nat} : (((n : Int) == 0) = ((m : Int) == 0)) ↔ (n = 0 ↔ m = 0) := by
  rw [Bool.eq_iff_iff]; simp only [beq_iff_eq]; omega

set_option maxRecDepth 100000 in
set_option maxHeartbeats 1000000 in
theorem f11_calls (w : World) (u : Value) (l : Lg) (hu : IsLog B w u l) :
    Calls Tryz.prog 11 #[u] w fun e w' => e = .returned (.bool (rightB l)) ∧ Ext w w' := by
  obtain ⟨D, dc, E, ec, cs, rfl, -, -, hfit, hl1, hl2, hl3, -, -⟩ := hu.open_
  unfold maxLen at hl2 hl3
  obtain ⟨f1, f2, f3, f4, f5⟩ := hfit
  have c1 := fun wx (hx : Ext w wx) => f27_calls wx _ l (hu.ext hx)
  have C1 := Lib.hid c1
  clear c1 hu
  go_enter Tryz.func11, Tryz.ntmps11
  go_wp2_with (go_at_call 27; refine (C1.out _ ?_).mono ?_; rotate_left; rintro e w' ⟨rfl, hx⟩)
  all_goals first
    | exact ((Ext.rfl'.alloc _).alloc _)
    | (try simp only [beq0] at *
       go_ret
       first
        | (refine ⟨ret_bool ?_, ((Ext.rfl'.alloc _).alloc _)⟩
           rw [rightB, decide_eq_false (show ¬ rightC l by unfold rightC; omega)]; rfl)
        | (refine ⟨ret_bool ?_, ((Ext.rfl'.alloc _).alloc _).trans hx⟩
           rw [rightB, decide_eq_true (show rightC l by unfold rightC; omega)]; rfl))
end Go.Proofs.YtpjodgoljocnlaaGreatDoor
