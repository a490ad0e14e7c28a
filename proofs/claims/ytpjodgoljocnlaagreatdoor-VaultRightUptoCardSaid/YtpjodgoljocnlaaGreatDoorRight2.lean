/- The reference's Right. -/
import Derived.Test.YtpjodgoljocnlaaGreatDoorRight
namespace Go.Proofs.YtpjodgoljocnlaaGreatDoor
open Go Go.RowKit
variable {B : Nat}
set_option maxRecDepth 100000 in
set_option maxHeartbeats 1000000 in
theorem f12_calls (w : World) (u : Value) (l : Lg) (hu : IsLog B w u l) :
    Calls Tryz.prog 12 #[u] w fun e w' => e = .returned (.bool (rightB l)) ∧ Ext w w' := by
  obtain ⟨D, dc, E, ec, cs, rfl, ha1, ha2, hfit, hl1, hl2, hl3, hr, hE⟩ := hu.open_
  unfold maxLen at hl2 hl3
  obtain ⟨f1, f2, f3, f4, f5⟩ := hfit
  clear hu ha1 ha2
  by_cases hC : rightC l
  · have HR := Lib.hid (show rightB l = rightEnts l.six l.term 0 (max l.sterm 1) l.ents by rw [rightB, decide_eq_true hC]; rfl)
    obtain ⟨q1, q2, q3, q4, q5, q6⟩ := hC
    have q4' : (l.sdata.length : Int) ≤ 32668 := by omega
    have hb0 : ∃ b : Bool, ((l.six : Int) == 0) = b ∧ ((l.sterm : Int) == 0) = b := ⟨_, rfl, (beq0.2 q2).symm⟩
    obtain ⟨bb, hb1, hb2⟩ := hb0
    have d1 : decide (l.vote < 0) = false := decide_eq_false (by omega)
    have d2 : decide (5 < l.vote) = false := decide_eq_false (by omega)
    have d3 : decide ((4611686018427387904 : Int) < l.six) = false := decide_eq_false (by omega)
    have d4 : decide (l.term < l.sterm) = false := decide_eq_false (by omega)
    have d5 : decide ((32668 : Int) < l.sdata.length) = false := decide_eq_false (by omega)
    clear q2
    go_enter Tryz.func12, Tryz.ntmps12
    go_wp2
    go_loopg [3, 4] l.ents.length (fun m tv iv wr => ∃ k t : Nat, k ≤ l.ents.length ∧ m = l.ents.length - k ∧ iv = .int .i64 k ∧ tv = .int .u64 t ∧ t < 18446744073709551616 ∧ Ext (w.alloc (lgBox l (.slice D l.sdata.length dc) (.slice E l.ents.length ec))) wr ∧ Hid (rightEnts l.six l.term k (max t 1) (l.ents.drop k) = rightEnts l.six l.term 0 (max l.sterm 1) l.ents))
    case atStart => exact ⟨0, l.sterm, Nat.zero_le _, by omega, rfl, rfl, f5, Ext.rfl', Lib.hid (by simp)⟩
    case round =>
      obtain ⟨k, t, hk, hgk, rfl, rfl, ht, hext, hrec⟩ := hrel
      have HG := Lib.hid hgk
      clear hgk
      have hb : ∀ o, wr.cell? ⟨w.heap.size, o, none⟩ = #[.int .u64 l.term, .int .i64 l.vote, .int .u64 l.six, .int .u64 l.sterm, .slice D l.sdata.length dc, .slice E l.ents.length ec][o]? := fun o => (Below.cell (p := ⟨w.heap.size, o, none⟩) hext (by simp)).trans (by simp)
      have hsz : w.heap.size < wr.heap.size := by have := hext.size; simp at this; omega
      by_cases hlt : k < l.ents.length
      · have hx0 : Ext w wr := (Ext.rfl'.alloc _).trans hext
        obtain ⟨b, o, e, rfl, hbs, e0, e1, e2, eb, et, ei⟩ := ent_at (hr.ext hx0) (hE.ext fun _ _ h => h.ext hx0) hlt
        obtain ⟨F, F', rfl, _⟩ := eb.form
        have HS := Lib.hid (re_step (six := l.six) (h := l.term) (t := max t 1) hlt)
        have HB := Lib.hid hext
        have HX := Lib.hid hx0
        clear hext hx0 hr hE eb
        go_wp2
        all_goals first
          | (go_ret
             try simp only [next_wrap, beq_iff_eq, beq_eq_false_iff_ne, ne_eq] at *
             refine ⟨ret_bool ?_, HX.out.alloc _⟩
             rw [HR.out, ← hrec.out, HS.out, eq_comm, Bool.and_eq_false_iff]
             left
             simp
             intros
             omega)
          | (go_roundg (l.ents.length - (k + 1))
             case measure => rw [HG.out]; omega
             case rel =>
               try simp only [next_wrap, beq_iff_eq, beq_eq_false_iff_ne, ne_eq] at *
               refine ⟨k + 1, l.ents[k].term, by omega, rfl, by go_num, rfl, et, HB.out.alloc _, Lib.hid ?_⟩
               rw [← hrec.out, HS.out]
               have hc : (l.ents[k].index == (l.six + k + 1) % 18446744073709551616 && decide (max t 1 ≤ l.ents[k].term) && decide (l.ents[k].term ≤ l.term) && decide (l.ents[k].data.length ≤ 32668)) = true := by simp; omega
               rw [hc, Bool.true_and, show max l.ents[k].term 1 = l.ents[k].term by omega])
      · have hx0 : Ext w wr := (Ext.rfl'.alloc _).trans hext
        have HX := Lib.hid hx0
        clear hext hx0 hr hE
        go_wp2
        go_ret
        refine ⟨ret_bool ?_, HX.out⟩
        rw [HR.out, ← hrec.out, re_end (by omega)]
  · go_enter Tryz.func12, Tryz.ntmps12
    go_wp2
    all_goals try simp only [beq0] at *
    all_goals first
      | (go_ret
         refine ⟨ret_bool ?_, Ext.rfl'.alloc _⟩
         rw [rightB, decide_eq_false hC]; rfl)
      | (exfalso; apply hC; unfold rightC; omega)
end Go.Proofs.YtpjodgoljocnlaaGreatDoor
