/- armoirehelp.CopyLog. -/
import Derived.Test.YtpjodgoljocnlaaGreatDoorOwn
import Derived.Test.YtpjodgoljocnlaaGreatDoorSeq
import Derived.Test.YtpjodgoljocnlaaGreatDoorRound
import Derived.Deep.RegionHeld3
namespace Go.Proofs.YtpjodgoljocnlaaGreatDoor
open Go Go.RowKit
variable {B e' : Nat}
theorem cell_of_heap {w w' : World} {b : Nat} (h : w'.heap[b]? = w.heap[b]?) (o : Nat) : w'.cell? ⟨b, o, none⟩ = w.cell? ⟨b, o, none⟩ := by
  unfold World.cell?
  simp only [h]
theorem block_normal' {n : Nat} {Q : Exit → Act → World → Prop} {a : Act} {w : World} (h : Q .normal a w) : Exit.inBlock n Q .normal a w := h
theorem then_normal' {K : Act → World → Prop} {Q : Exit → Act → World → Prop} {a : Act} {w : World} (h : K a w) : Exit.then K Q .normal a w := h
theorem copied (w : World) (F : Option Addr) (bs : List UInt8) (c : Nat) (hv : IsBytes B w (.slice F bs.length c) bs) (hl : bs.length ≤ big) :
    ∀ W, Ext w W → Calls Tryz.prog 26 #[.slice F bs.length c] W fun e w' => ∃ V n, e = .returned (.slice V bs.length n) ∧ IsBytes B w' (.slice V bs.length n) bs ∧ Ext w w' := fun W hx =>
  (f26_calls W _ bs (hv.ext hx) hl).mono (by
    rintro e w' ⟨r, rfl, h1, h2⟩
    obtain ⟨V, n, rfl, -, -, -⟩ := own_form h1
    exact ⟨V, n, rfl, IsBytes.of_own h1, hx.trans h2⟩)
set_option maxRecDepth 100000 in
set_option maxHeartbeats 4000000 in
theorem f10_calls (w : World) (u : Value) (l : Lg) (hu : IsLog B w u l) (hB : B ≤ w.heap.size) (h1 : l.sdata.length ≤ big) (h2 : sumLen l.ents ≤ big) (h3 : l.ents.length ≤ big) :
    Calls Tryz.prog 10 #[u] w fun e w' => ∃ v, e = .returned v ∧ IsLog B w' v l ∧ Ext w w' := by
  obtain ⟨D, dc, E, ec, cs, rfl, ha1, ha2, hfit, hl1, hl2, hl3, hr, hE⟩ := hu.open_
  obtain ⟨i0, hi0, hz0, hz1, hz2⟩ := info_parts Tryz.info50
  unfold maxLen at hl2 hl3
  have HFIT := Lib.hid hfit
  have HD := Lib.hid ha1
  have H1 := Lib.hid h1
  have H2 := Lib.hid h2
  have H3 := Lib.hid h3
  clear hu ha1 ha2 hfit h1 h2 h3
  go_enter Tryz.func10, Tryz.ntmps10
  go_wp2
  have k1 : Blk ((w.alloc (.cells #[.int .u64 l.term, .int .i64 l.vote, .int .u64 l.six, .int .u64 l.sterm, .slice D l.sdata.length dc, .slice E l.ents.length ec] 30)).alloc (.cells #[.int .u64 0, .int .i64 0, .int .u64 0, .int .u64 0, .slice none 0 0, .slice none 0 0] 30)) w.heap.size 30 #[.int .u64 l.term, .int .i64 l.vote, .int .u64 l.six, .int .u64 l.sterm, .slice D l.sdata.length dc, .slice E l.ents.length ec] := (Blk.new w 30 _).alloc _
  have k2 : Blk ((w.alloc (.cells #[.int .u64 l.term, .int .i64 l.vote, .int .u64 l.six, .int .u64 l.sterm, .slice D l.sdata.length dc, .slice E l.ents.length ec] 30)).alloc (.cells #[.int .u64 0, .int .i64 0, .int .u64 0, .int .u64 0, .slice none 0 0, .slice none 0 0] 30)) (w.heap.size + 1) 30 #[.int .u64 0, .int .i64 0, .int .u64 0, .int .u64 0, .slice none 0 0, .slice none 0 0] := by simpa using Blk.new (w.alloc _) 30 _
  have kx : Ext w ((w.alloc (.cells #[.int .u64 l.term, .int .i64 l.vote, .int .u64 l.six, .int .u64 l.sterm, .slice D l.sdata.length dc, .slice E l.ents.length ec] 30)).alloc (.cells #[.int .u64 0, .int .i64 0, .int .u64 0, .int .u64 0, .slice none 0 0, .slice none 0 0] 30)) := (Ext.rfl'.alloc _).alloc _
  generalize ((w.alloc (.cells #[.int .u64 l.term, .int .i64 l.vote, .int .u64 l.six, .int .u64 l.sterm, .slice D l.sdata.length dc, .slice E l.ents.length ec] 30)).alloc (.cells #[.int .u64 0, .int .i64 0, .int .u64 0, .int .u64 0, .slice none 0 0, .slice none 0 0] 30)) = w1 at *
  have K := Lib.hid (And.intro k1 (And.intro k2 kx))
  clear k1 k2 kx
  go_loopg [3, 4] l.ents.length (fun m ov iv wr => ∃ k : Nat, k ≤ l.ents.length ∧ m = l.ents.length - k ∧ iv = .int .i64 k ∧ Ext w wr ∧ OwnEnts B wr (w.heap.size + 2) ov (l.ents.take k) ∧
    Blk wr w.heap.size 30 #[.int .u64 l.term, .int .i64 l.vote, .int .u64 l.six, .int .u64 l.sterm, .slice D l.sdata.length dc, .slice E l.ents.length ec] ∧ Blk wr (w.heap.size + 1) 30 #[.int .u64 0, .int .i64 0, .int .u64 0, .int .u64 0, .slice none 0 0, .slice none 0 0])
  case atStart => exact ⟨0, Nat.zero_le _, by omega, rfl, K.out.2.2, ⟨[], by simpa using World.ownsRow_nil _ _ _ _, rfl⟩, K.out.1, K.out.2.1⟩
  case round =>
    obtain ⟨k, hk, hgk, rfl, hext, hown, hb1, hb2⟩ := hrel
    have HG := Lib.hid hgk
    obtain ⟨r1, r2, r3⟩ := hb1.rules
    have HB1 := Lib.hid hb1
    have HB2 := Lib.hid hb2
    clear hgk
    by_cases hlt : k < l.ents.length
    · obtain ⟨b, o, e, rfl, hbw, e0w, e1w, e2w, ebw, et, ei⟩ := ent_at hr hE hlt
      have hbs := Nat.lt_of_lt_of_le hbw hext.size
      have e0 := hext.cell e0w
      have e1 := hext.cell e1w
      have e2 := hext.cell e2w
      have eb := ebw.ext hext
      clear e0w e1w e2w ebw
      obtain ⟨F, F', rfl, _⟩ := eb.form
      obtain ⟨cs', hcs, hcE⟩ := hown
      have hki : (k : Int) < l.ents.length := by omega
      have hln : (l.ents.take k).length = k := by simp; omega
      have hdl : l.ents[k].data.length ≤ big := Nat.le_trans (sumLen_mem hlt) H2.out
      have C26 := Lib.hid (copied wr F l.ents[k].data F' eb hdl)
      rw [hln] at hcs
      obtain ⟨V3, n3, rfl, -, -, -⟩ := own_form hcs
      have HC := Lib.hid hcs
      have HE := Lib.hid hcE
      have HX := Lib.hid hext
      have HET := Lib.hid (And.intro et ei)
      have hsz := hb2.lt
      clear hcs hcE hext hln hdl eb hb1 hb2 et ei
      go_wp2
      go_region_held3 (fun wq => wq.cell? ⟨w.heap.size, 5, none⟩ = some (.slice (some ⟨b, o, none⟩) l.ents.length ec) ∧ wq.cell? ⟨b, o + k * 3, none⟩ = some (.int .u64 l.ents[k].term) ∧ wq.cell? ⟨b, o + k * 3 + 1, none⟩ = some (.int .u64 l.ents[k].index) ∧ wq.cell? ⟨b, o + k * 3 + 2, none⟩ = some (.slice F l.ents[k].data.length F')) (go_keep) (first | (go_at_call 26; refine (C26.out _ ?_).mono ?_; (repeat (first | exact Ext.rfl' | refine Ext.drew ?_ | refine Ext.alloc ?_ _)); rintro e w2 ⟨V2, n2, rfl, hb2, hx2⟩; obtain ⟨q1, q2, q3⟩ := hx2.rules; have HO2 := Lib.hid hb2; have HX2 := Lib.hid hx2; clear hb2 hx2 C26) | (refine step_append (o := ⟨some 34, _, _, _, _, _⟩) (B := B) (e' := 50) _ ?a1 (.tmp 12) (.tmp 33) 28 ?a2 (w.heap.size + 2) 50 i0 _ 3 40 Tryz.underlying28 hi0 hz0 hz1 hz2 ?a3 ?a4 (.slice V3 k n3) k cs' ?a5 ?a6 (some ⟨w2.heap.size, 0, none⟩) 1 1 [.int .u64 l.ents[k].term, .int .u64 l.ents[k].index, .slice V2 l.ents[k].data.length n2] ?a7 ?a8 ?a9 ?b1 ?b2 ?b3 ?b4 ?b5; (case a1 => rfl); (case a2 => rfl); (case a3 => rfl); (case a4 => omega); (case a5 => kernel_rfl); (case a6 => exact own_ext HC.out (HX2.out.alloc _)); (case a7 => kernel_rfl); (case a8 => rfl); (case a9 => exact row_new _ _); (case b1 => exact ent_one); (case b2 => unfold maxLen; omega); (case b3 => have := H3.out; rw [big_is] at this; omega); (case b4 => have := HX2.out.size; simp; omega); intro v9 w9 hown9 hg9 ha9; have m9 : Mut B [50] w2 w9 := Mut.grown (Mut.rfl'.alloc _) (own_ext HC.out (HX2.out.alloc (.cells #[.int .u64 l.ents[k].term, .int .u64 l.ents[k].index, .slice V2 l.ents[k].data.length n2] 50))) hg9 (by simp) (by omega); have M9 := Lib.hid m9; have x9 : Mut (w.heap.size + 2) [50] w2 w9 := Mut.grown (Mut.rfl'.alloc _) (own_ext HC.out (HX2.out.alloc (.cells #[.int .u64 l.ents[k].term, .int .u64 l.ents[k].index, .slice V2 l.ents[k].data.length n2] 50))) hg9 (by simp) (Nat.le_refl _); have y9 : ∀ oo, w9.cell? ⟨b, oo, none⟩ = w2.cell? ⟨b, oo, none⟩ := (fun oo => cell_of_heap (x9.block b (by omega) (.inl (by omega))) oo); have O9 := Lib.hid hown9; have G9 := Lib.hid hg9; obtain ⟨p1, p2, p3⟩ := ((HB1.out.ext HX2.out).mut m9 (by simp)).rules; clear m9 hown9 hg9 ha9))
      refine block_normal' ?_
      refine then_normal' ?_
      go_step
      go_wp2
      go_roundg (l.ents.length - (k + 1))
      case measure => have := HG.out; omega
      case rel =>
        have o2 := own_ext HC.out (HX2.out.alloc (.cells #[.int .u64 l.ents[k].term, .int .u64 l.ents[k].index, .slice V2 l.ents[k].data.length n2] 50))
        have m3 : Mut B [50] wr w9 := HX2.out.mut.trans M9.out
        have hxw : Ext w w9 := ((HX.out.trans HX2.out).alloc _).grown o2 G9.out (by omega)
        have hent : IsEnt B w9 [.int .u64 l.ents[k].term, .int .u64 l.ents[k].index, .slice V2 l.ents[k].data.length n2] l.ents[k] :=
          ⟨_, rfl, HO2.out.mut M9.out (by simp), HET.out.1, HET.out.2⟩
        refine ⟨k + 1, by omega, rfl, by go_num, hxw, ⟨cs' ++ [.int .u64 l.ents[k].term, .int .u64 l.ents[k].index, .slice V2 l.ents[k].data.length n2], ?_, ?_⟩, HB1.out.mut m3 (by simp), HB2.out.mut m3 (by simp)⟩
        · rw [show (l.ents.take (k + 1)).length = k + 1 by simp; omega]; exact O9.out
        · rw [take_snoc hlt]; exact ents_push HE.out m3 hent
    · have hke : k = l.ents.length := by omega
      obtain ⟨cs', hcs, hcE⟩ := hown
      rw [hke, List.take_of_length_le (Nat.le_refl _)] at hcs hcE
      obtain ⟨V3, n3, hV3, -, -, -⟩ := own_form hcs
      subst hV3
      have hd : IsBytes B wr (.slice D l.sdata.length dc) l.sdata := HD.out.ext hext
      have C26 := Lib.hid (copied wr D l.sdata dc hd H1.out)
      have OE := Lib.hid (show OwnEnts B wr (w.heap.size + 2) (.slice V3 l.ents.length n3) l.ents from ⟨cs', hcs, hcE⟩)
      have HX := Lib.hid hext
      obtain ⟨p1, p2, p3⟩ := hb2.rules
      clear hcs hcE hext hke hd hb1 hb2
      go_wp2
      go_region_held3 (fun wq => wq.cell? ⟨w.heap.size, 0, none⟩ = some (.int .u64 l.term) ∧ wq.cell? ⟨w.heap.size, 1, none⟩ = some (.int .i64 l.vote) ∧ wq.cell? ⟨w.heap.size, 2, none⟩ = some (.int .u64 l.six) ∧ wq.cell? ⟨w.heap.size, 3, none⟩ = some (.int .u64 l.sterm) ∧ wq.cell? ⟨w.heap.size, 4, none⟩ = some (.slice D l.sdata.length dc)) (go_keep) (first | (go_at_call 26; refine (C26.out _ ?_).mono ?_; (repeat (first | exact Ext.rfl' | refine Ext.drew ?_ | refine Ext.alloc ?_ _)); rintro e w2 ⟨V2, n2, rfl, hb2, hx2⟩; obtain ⟨q1, q2, q3⟩ := (HB2.out.ext hx2).rules; obtain ⟨q4, q5, q6⟩ := (HB1.out.ext hx2).rules; have HO2 := Lib.hid hb2; have HX2 := Lib.hid hx2; clear hb2 hx2 C26))
      refine then_normal' ?_
      go_step
      go_wp2
      refine bodyPost_ret (v := .agg #[.int .u64 l.term, .int .i64 l.vote, .int .u64 l.six, .int .u64 l.sterm, .slice V2 l.sdata.length n2, .slice V3 l.ents.length n3]) (by simp [results, Tryz.results10, go_sem, q1]) rfl ?_
      have bz := HB2.out.ext HX2.out
      have m : Mut B [30] w2 _ := ((((((Mut.rfl' (w := w2)).put bz (by simp) (by omega) 0 none (.int .u64 l.term)).put bz (by simp) (by omega) 1 none (.int .i64 l.vote)).put bz (by simp) (by omega) 2 none (.int .u64 l.six)).put bz (by simp) (by omega) 3 none (.int .u64 l.sterm)).put bz (by simp) (by omega) 4 none (.slice V2 l.sdata.length n2)).put bz (by simp) (by omega) 5 none (.slice V3 l.ents.length n3)
      refine ⟨_, rfl, ⟨_, _, rfl, HO2.out.mut m (by simp), (OE.out.ents.ext HX2.out).mut m (by simp) (by simp), HFIT.out⟩, ?_⟩
      have hx := HX.out.trans HX2.out
      repeat (first | (with_reducible exact hx) | (refine Ext.setCell ?_ (by simp) _))
end Go.Proofs.YtpjodgoljocnlaaGreatDoor
