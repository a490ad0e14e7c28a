/- How great a log is: armoirelaw07.small, armoireref07.Size. -/
import Derived.Test.YtpjodgoljocnlaaGreatDoorLog
namespace Go.Proofs.YtpjodgoljocnlaaGreatDoor
open Go Go.RowKit
variable {B : Nat}
def sumLen : List Ent → Nat
  | [] => 0
  | e :: es => e.data.length + sumLen es
theorem sumLen_append : ∀ (a b : List Ent), sumLen (a ++ b) = sumLen a + sumLen b
  | [], b => by simp [sumLen]
  | e :: es, b => by simp [sumLen, sumLen_append es b]; omega
theorem sumLen_take {es : List Ent} {k : Nat} (h : k < es.length) : sumLen (es.take (k + 1)) = sumLen (es.take k) + es[k].data.length := by
  rw [List.take_succ_eq_append_getElem h, sumLen_append]; simp [sumLen]
theorem sumLen_take_le (es : List Ent) (k : Nat) : sumLen (es.take k) ≤ sumLen es := by
  have := sumLen_append (es.take k) (es.drop k)
  rw [List.take_append_drop] at this; omega
theorem sumLen_mem {es : List Ent} {k : Nat} (h : k < es.length) : es[k].data.length ≤ sumLen es := by
  have := sumLen_take h; have := sumLen_take_le es (k+1); omega
def smallB (l : Lg) : Bool := decide (l.ents.length < 400 ∧ l.sdata.length + sumLen l.ents < 131072)

set_option maxRecDepth 100000 in
set_option maxHeartbeats 1000000 in
theorem f8_calls (w : World) (u : Value) (l : Lg) (hu : IsLog B w u l) (hbig : l.sdata.length + sumLen l.ents ≤ big) :
    Calls Tryz.prog 8 #[u] w fun e w' => e = .returned (.bool (smallB l)) ∧ Ext w w' := by
  obtain ⟨D, dc, E, ec, cs, rfl, ha1, ha2, hfit, hl1, hl2, hl3, hr, hE⟩ := hu.open_
  unfold maxLen at hl2 hl3
  rw [big_is] at hbig
  clear hu ha1 ha2 hfit
  go_enter Tryz.func8, Tryz.ntmps8
  go_wp2
  go_loopg [3, 4] l.ents.length (fun m nv iv wr => ∃ k n : Nat, k ≤ l.ents.length ∧ k ≤ 400 ∧ m = l.ents.length - k ∧ iv = .int .i64 k ∧ nv = .int .i64 n ∧ n ≤ 1099511627776 ∧ Ext (w.alloc (lgBox l (.slice D l.sdata.length dc) (.slice E l.ents.length ec))) wr ∧ Hid (n = l.sdata.length + sumLen (l.ents.take k)))
  case atStart => exact ⟨0, l.sdata.length, Nat.zero_le _, by omega, by omega, rfl, rfl, by omega, Ext.rfl', Lib.hid (by simp [sumLen])⟩
  case round =>
    obtain ⟨k, n, hk, hk4, hgk, rfl, rfl, hn, hext, hrec⟩ := hrel
    have HG := Lib.hid hgk
    clear hgk
    have hb : ∀ o, wr.cell? ⟨w.heap.size, o, none⟩ = #[.int .u64 l.term, .int .i64 l.vote, .int .u64 l.six, .int .u64 l.sterm, .slice D l.sdata.length dc, .slice E l.ents.length ec][o]? := fun o => (Below.cell (p := ⟨w.heap.size, o, none⟩) hext (by simp)).trans (by simp)
    have hsz : w.heap.size < wr.heap.size := by have := hext.size; simp at this; omega
    have hx0 : Ext w wr := (Ext.rfl'.alloc _).trans hext
    by_cases hlt : k < l.ents.length ∧ k < 400
    · obtain ⟨hlt, hlt4⟩ := hlt
      have hi1 : decide (k < l.ents.length) = true := decide_eq_true hlt
      have hi2 : decide ((k : Int) < 400) = true := decide_eq_true (by omega)
      obtain ⟨b, o, e, rfl, hbs, e0, e1, e2, eb, et, ei⟩ := ent_at (hr.ext hx0) (hE.ext fun _ _ h => h.ext hx0) hlt
      obtain ⟨F, F', rfl, _⟩ := eb.form
      have hs1 := sumLen_take hlt
      have hs2 := sumLen_take_le l.ents (k + 1)
      have hn' : n + l.ents[k].data.length ≤ 1099511627776 := by have := hrec.out; omega
      have HS := Lib.hid hs1
      have HB := Lib.hid hext
      clear hext hx0 hr hE eb hs1 hs2
      go_wp2
      go_roundg (l.ents.length - (k + 1))
      case measure => rw [HG.out]; omega
      case rel => exact ⟨k + 1, n + l.ents[k].data.length, by omega, by omega, rfl, by go_num, by go_num, hn', HB.out, Lib.hid (by rw [HS.out, hrec.out]; omega)⟩
    · have HX := Lib.hid hx0
      have hfin : smallB l = (decide (l.ents.length < 400) && decide (n < 131072)) := by
        have hre := hrec.out
        by_cases h4 : l.ents.length < 400
        · have hke : k = l.ents.length := by omega
          rw [hke, List.take_of_length_le (Nat.le_refl _)] at hre
          simp [smallB, h4, hre]
        · simp [smallB, h4]
      have HF := Lib.hid hfin
      clear hfin hext hx0 hr hE
      by_cases hk2 : k < l.ents.length
      · have hi1 : decide (k < l.ents.length) = true := decide_eq_true hk2
        have hi2 : decide ((k : Int) < 400) = false := decide_eq_false (by omega)
        have hi3 : decide ((l.ents.length : Int) < 400) = false := decide_eq_false (by omega)
        go_wp2
        go_ret
        exact ⟨ret_bool (by rw [HF.out, decide_eq_false (show ¬ l.ents.length < 400 by omega)]; rfl), HX.out⟩
      · have hi1 : decide (k < l.ents.length) = false := decide_eq_false hk2
        go_wp2
        all_goals
          go_ret
          refine ⟨ret_bool ?_, HX.out⟩
          rw [HF.out, Bool.eq_iff_iff]
          simp only [Bool.and_eq_true, decide_eq_true_eq, Bool.false_eq_true, false_iff]
          omega

def sizeN (l : Lg) : Nat := 400 + l.sdata.length + 100 * l.ents.length + sumLen l.ents
set_option maxRecDepth 100000 in
set_option maxHeartbeats 1000000 in
theorem f19_calls (w : World) (u : Value) (l : Lg) (hu : IsLog B w u l) (hbig : sizeN l ≤ big) :
    Calls Tryz.prog 19 #[u] w fun e w' => e = .returned (.int .i64 (sizeN l)) ∧ Ext w w' := by
  obtain ⟨D, dc, E, ec, cs, rfl, ha1, ha2, hfit, hl1, hl2, hl3, hr, hE⟩ := hu.open_
  unfold maxLen at hl2 hl3
  rw [big_is] at hbig
  unfold sizeN at *
  clear hu ha1 ha2 hfit
  have hsd : l.sdata.length ≤ 1099511627776 := by omega
  have HBIG := Lib.hid hbig
  clear hbig
  go_enter Tryz.func19, Tryz.ntmps19
  go_wp2
  go_loopg [3, 4] l.ents.length (fun m nv iv wr => ∃ k n : Nat, k ≤ l.ents.length ∧ m = l.ents.length - k ∧ iv = .int .i64 k ∧ nv = .int .i64 n ∧ n ≤ 1099511627776 ∧ Ext (w.alloc (lgBox l (.slice D l.sdata.length dc) (.slice E l.ents.length ec))) wr ∧ Hid (n = 400 + l.sdata.length + 100 * k + sumLen (l.ents.take k)))
  case atStart => exact ⟨0, 400 + l.sdata.length, Nat.zero_le _, by omega, rfl, by go_num, by have := HBIG.out; omega, Ext.rfl', Lib.hid (by simp [sumLen])⟩
  case round =>
    obtain ⟨k, n, hk, hgk, rfl, rfl, hn, hext, hrec⟩ := hrel
    have HG := Lib.hid hgk
    clear hgk
    have hb : ∀ o, wr.cell? ⟨w.heap.size, o, none⟩ = #[.int .u64 l.term, .int .i64 l.vote, .int .u64 l.six, .int .u64 l.sterm, .slice D l.sdata.length dc, .slice E l.ents.length ec][o]? := fun o => (Below.cell (p := ⟨w.heap.size, o, none⟩) hext (by simp)).trans (by simp)
    have hsz : w.heap.size < wr.heap.size := by have := hext.size; simp at this; omega
    have hx0 : Ext w wr := (Ext.rfl'.alloc _).trans hext
    by_cases hlt : k < l.ents.length
    · obtain ⟨b, o, e, rfl, hbs, e0, e1, e2, eb, et, ei⟩ := ent_at (hr.ext hx0) (hE.ext fun _ _ h => h.ext hx0) hlt
      obtain ⟨F, F', rfl, _⟩ := eb.form
      have hs1 := sumLen_take hlt
      have hs2 := sumLen_take_le l.ents (k + 1)
      have hn' : n + 100 + l.ents[k].data.length ≤ 1099511627776 := by have := hrec.out; have := HBIG.out; omega
      have HS := Lib.hid hs1
      have HB := Lib.hid hext
      clear hext hx0 hr hE eb hs1 hs2
      go_wp2
      go_roundg (l.ents.length - (k + 1))
      case measure => rw [HG.out]; omega
      case rel => exact ⟨k + 1, n + 100 + l.ents[k].data.length, by omega, rfl, by go_num, by go_num, hn', HB.out, Lib.hid (by rw [HS.out, hrec.out]; omega)⟩
    · have HX := Lib.hid hx0
      have hre := hrec.out
      have hke : k = l.ents.length := by omega
      rw [hke, List.take_of_length_le (Nat.le_refl _)] at hre
      have HF := Lib.hid hre
      clear hre hke hext hx0 hr hE
      go_wp2
      go_ret
      exact ⟨ret_int (by rw [HF.out]), HX.out⟩
end Go.Proofs.YtpjodgoljocnlaaGreatDoor
