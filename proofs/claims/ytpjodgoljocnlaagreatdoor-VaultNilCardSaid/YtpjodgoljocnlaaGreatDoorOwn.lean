/- Copies of logs: vault.Own, armoirehelp.CopyLog, CopyBytes. -/
import Derived.Test.YtpjodgoljocnlaaGreatDoorSize
namespace Go.Proofs.YtpjodgoljocnlaaGreatDoor
open Go Go.RowKit
variable {B : Nat}
/-- an entries' row of the call's own -/
def OwnEnts (B : Nat) (w : World) (base : Nat) (v : Value) (es : List Ent) : Prop := ∃ cs, w.ownsRow base 50 3 v es.length cs ∧ Each (IsEnt B) w cs es
theorem OwnEnts.ents {w : World} {base : Nat} {v : Value} {es : List Ent} (h : OwnEnts B w base v es) : IsEnts B w v es := by
  obtain ⟨cs, h1, h2⟩ := h
  exact IsSlice.of_own h1 h2
theorem IsBytes.mut {T : List Nat} {w w' : World} {v : Value} {bs : List UInt8} (h : IsBytes B w v bs) (he : Mut B T w w') (hT : 5 ∉ T) : IsBytes B w' v bs := by
  obtain ⟨A, c, h1, h2, h3, h3', h4⟩ := h
  exact ⟨A, c, h1, h2, h3, h3', h4.mut he hT⟩
theorem IsEnt.mut {T : List Nat} {w w' : World} {cs : List Value} {e : Ent} (h : IsEnt B w cs e) (he : Mut B T w w') (hT : 5 ∉ T) : IsEnt B w' cs e := by
  obtain ⟨d, h1, h2, h3⟩ := h
  exact ⟨d, h1, h2.mut he hT, h3⟩
theorem IsEnts.mut {T : List Nat} {w w' : World} {v : Value} {es : List Ent} (h : IsEnts B w v es) (he : Mut B T w w') (hT : 5 ∉ T) (hT' : 50 ∉ T) : IsEnts B w' v es := by
  obtain ⟨A, c, cs, h1, h2, h3, h3', h4, h5⟩ := h.form
  exact ⟨A, c, cs, h1, h2, h3, h3', h4.mut he hT', h5.ext fun _ _ k => k.mut he hT⟩
theorem IsLog.mut {T : List Nat} {w w' : World} {v : Value} {l : Lg} (h : IsLog B w v l) (he : Mut B T w w') (hT : 5 ∉ T) (hT' : 50 ∉ T) : IsLog B w' v l := by
  obtain ⟨sd, ev, h1, h2, h3, h4⟩ := h.form
  exact ⟨sd, ev, h1, h2.mut he hT, h3.mut he hT hT', h4⟩
/-- one entry more -/
theorem ents_push {w w' : World} {cs c0 : List Value} {es : List Ent} {e : Ent} (h : Each (IsEnt B) w cs es) (he : Mut B [50] w w') (hn : IsEnt B w' c0 e) : Each (IsEnt B) w' (cs ++ c0) (es ++ [e]) :=
  (h.ext fun _ _ k => k.mut he (by simp)).append (Each.one hn)
theorem ent_one {t i : Int} {D : Option Addr} {n c : Nat} : ∀ u ∈ [Value.int .u64 t, .int .u64 i, .slice D n c], u.oneCell' = true := by
  intro u hu
  simp at hu
  rcases hu with rfl | rfl | rfl <;> rfl
theorem take_snoc {α : Type} {es : List α} {k : Nat} (h : k < es.length) : es.take (k + 1) = es.take k ++ [es[k]] := List.take_succ_eq_append_getElem h

set_option maxRecDepth 100000 in
set_option maxHeartbeats 1000000 in
theorem f46_calls (w : World) (u : Value) (l : Lg) (hu : IsLog B w u l) (hB : B ≤ w.heap.size) (h1 : l.sdata.length ≤ big) (h2 : sumLen l.ents ≤ big) (h3 : l.ents.length ≤ big) :
    Calls Tryz.prog 46 #[u] w fun e w' => ∃ v, e = .returned v ∧ IsLog B w' v l ∧ Ext w w' := by
  obtain ⟨D, dc, E, ec, cs, rfl, ha1, ha2, hfit, hl1, hl2, hl3, hr, hE⟩ := hu.open_
  obtain ⟨i0, hi0, hz0, hz1, hz2⟩ := info_parts Tryz.info50
  unfold maxLen at hl2 hl3
  have c1 := fun wx (hx : Ext w wx) => f74_row (B := B) (e' := 5) wx D l.sdata.length dc (bytesV l.sdata) (by simp) ((ha1.ext hx).form_at) (bytesV_one _) h1 ha1.nilOk
  have C1 := Lib.hid c1
  have HFIT := Lib.hid hfit
  have H2 := Lib.hid h2
  have H3 := Lib.hid h3
  clear c1 hu ha1 ha2 hfit h1 h2 h3
  go_enter Tryz.func46, Tryz.ntmps46
  go_wp2_with (go_at_call 74; refine (C1.out _ ?_).mono ?_; rotate_left; rintro e w1 ⟨v1, rfl, hown1, hx1⟩; obtain ⟨V1, n1, rfl, -, -, -⟩ := own_form hown1; obtain ⟨q1, q2, q3⟩ := hx1.rules; have HO1 := Lib.hid hown1; have HX1 := Lib.hid hx1; clear hown1 hx1)
  rotate_left
  · exact (Ext.rfl'.alloc _).alloc _
  go_loopg [3, 15] l.ents.length (fun m ov iv wr => ∃ k : Nat, k ≤ l.ents.length ∧ m = l.ents.length - k ∧ iv = .int .i64 k ∧ Ext w wr ∧ OwnEnts B wr (w.heap.size + 2) ov (l.ents.take k) ∧ IsBytes B wr (.slice V1 l.sdata.length n1) l.sdata ∧
    Blk wr w.heap.size 30 #[.int .u64 l.term, .int .i64 l.vote, .int .u64 l.six, .int .u64 l.sterm, .slice V1 l.sdata.length n1, .slice E l.ents.length ec] ∧ Blk wr (w.heap.size + 1) 30 #[.int .u64 0, .int .i64 0, .int .u64 0, .int .u64 0, .slice none 0 0, .slice none 0 0])
  case atStart =>
    have hE1 : Ext w w1 := ((Ext.rfl'.alloc _).alloc _).trans HX1.out
    refine ⟨0, Nat.zero_le _, by omega, rfl, hE1.setCell (by simp) _, ⟨[], by simpa using World.ownsRow_nil _ _ _ _, rfl⟩, ?_, ?_, ?_⟩
    · exact (IsBytes.of_own HO1.out).mut (T := [30]) (Mut.rfl'.store (p := ⟨w.heap.size, 4, none⟩) (((Blk.new w 30 _).alloc _).ext HX1.out) (by simp) hB _) (by simp)
    · simpa using (((Blk.new w 30 _).alloc _).ext HX1.out).set_ 4 _
    · refine Blk.far ?_ (by simp) _
      simpa using (Blk.new (w.alloc _) 30 _).ext HX1.out
  case round =>
    obtain ⟨k, hk, hgk, rfl, hext, hown, hsd, hb1, hb2⟩ := hrel
    have HG := Lib.hid hgk
    obtain ⟨r1, r2, r3⟩ := hb1.rules
    obtain ⟨s1, s2, s3⟩ := hb2.rules
    have HB1 := Lib.hid hb1
    have HB2 := Lib.hid hb2
    have HSD := Lib.hid hsd
    clear hgk hb1 hb2 hsd q1 q2 q3
    by_cases hlt : k < l.ents.length
    · obtain ⟨b, o, e, rfl, hbs, e0, e1, e2, eb, et, ei⟩ := ent_at (hr.ext hext) (hE.ext fun _ _ h => h.ext hext) hlt
      obtain ⟨F, F', rfl, _⟩ := eb.form
      obtain ⟨cs', hcs, hcE⟩ := hown
      have hln : (l.ents.take k).length = k := by simp; omega
      have hdl : l.ents[k].data.length ≤ big := Nat.le_trans (sumLen_mem hlt) H2.out
      have c2 := fun wx (hx : Ext wr wx) => f74_row (B := B) (e' := 5) wx F l.ents[k].data.length F' (bytesV l.ents[k].data) (by simp) ((eb.ext hx).form_at) (bytesV_one _) hdl eb.nilOk
      have C2 := Lib.hid c2
      rw [hln] at hcs
      have HC := Lib.hid hcs
      have HE := Lib.hid hcE
      have HX := Lib.hid hext
      have HL := Lib.hid hln
      clear c2 hcs hcE hext hln hdl eb
      go_wp2_with (first | (go_at_call 74; refine (C2.out _ ?_).mono ?_; rotate_left; rintro e w2 ⟨v2, rfl, hown2, hx2⟩; obtain ⟨V2, n2, rfl, -, -, -⟩ := own_form hown2; obtain ⟨q1, q2, q3⟩ := hx2.rules; have HO2 := Lib.hid hown2; have HX2 := Lib.hid hx2; clear hown2 hx2) | (at_builtin; refine wpl_append (B := B) (e' := 50) _ rfl (.tmp 23) (.tmp 25) 28 rfl (w.heap.size + 2) 50 i0 _ 3 40 Tryz.underlying28 hi0 hz0 hz1 hz2 rfl (by omega) _ k cs' rfl ?o1 _ 1 1 [.int .u64 l.ents[k].term, .int .u64 l.ents[k].index, .slice V2 l.ents[k].data.length n2] rfl rfl ?o2 ent_one ?o3 ?o4 ?o5 ?o6))
      case refine_1 => exact Ext.rfl'.alloc _
      case o1 => exact own_ext (own_set (own_ext HC.out ((Ext.rfl'.alloc _).trans HX2.out)) (by intro h; have := (HC.out.lt _ h).2; simp at this) _) (Ext.rfl'.alloc _)
      case o2 => simpa using row_new (B := B) (e := 50) (w2.setCell ⟨wr.heap.size, 2, none⟩ (.slice V2 l.ents[k].data.length n2)) [.int .u64 l.ents[k].term, .int .u64 l.ents[k].index, .slice V2 l.ents[k].data.length n2]
      case o3 => unfold maxLen; omega
      case o4 => have := H3.out; rw [big_is] at this; omega
      case o5 => simp at q3; simp; omega
      case o6 =>
        intro v3 w3 hown3 hg3 hat3
        have HO3 := Lib.hid hown3
        have HG3 := Lib.hid hg3
        have HA3 := Lib.hid hat3
        clear hown3 hg3 hat3
        go_wp2
        go_roundg (l.ents.length - (k + 1))
        case measure => rw [HG.out]; omega
        case rel =>
          have x1 := Ext.rfl'.alloc (a := wr) (w := wr) (.cells #[.int .u64 l.ents[k].term, .int .u64 l.ents[k].index, .slice F l.ents[k].data.length F'] 50) |>.trans HX2.out
          have own4 := own_ext (own_set (p := ⟨wr.heap.size, 2, none⟩) (own_ext HC.out x1) (by intro h; have := (HC.out.lt _ h).2; simp at this) (.slice V2 l.ents[k].data.length n2)) (Ext.rfl'.alloc (.cells #[.int .u64 l.ents[k].term, .int .u64 l.ents[k].index, .slice V2 l.ents[k].data.length n2] 50))
          have hBk : B ≤ wr.heap.size := Nat.le_trans hB HX.out.size
          have m3 : Mut B [50] wr w3 := Mut.grown ((Mut.setNew (p := ⟨wr.heap.size, 2, none⟩) x1.mut (Nat.le_refl _) _).alloc _) own4 HG3.out (by simp) (by omega)
          have bx := (Blk.new wr 50 #[.int .u64 l.ents[k].term, .int .u64 l.ents[k].index, .slice F l.ents[k].data.length F']).ext HX2.out
          have m2 : Mut B [50] w2 w3 := Mut.grown ((Mut.store (p := ⟨wr.heap.size, 2, none⟩) Mut.rfl' bx (by simp) hBk _).alloc _) own4 HG3.out (by simp) (by omega)
          have hxw : Ext w w3 := Ext.grown (((HX.out.trans x1).setCell (p := ⟨wr.heap.size, 2, none⟩) HX.out.size _).alloc _) own4 HG3.out (by omega)
          have hent : IsEnt B w3 [.int .u64 l.ents[k].term, .int .u64 l.ents[k].index, .slice V2 l.ents[k].data.length n2] l.ents[k] :=
            ⟨_, rfl, (IsBytes.of_own HO2.out).mut m2 (by simp), et, ei⟩
          refine ⟨k + 1, by omega, rfl, by go_num, hxw, ⟨cs' ++ [.int .u64 l.ents[k].term, .int .u64 l.ents[k].index, .slice V2 l.ents[k].data.length n2], ?_, ?_⟩, HSD.out.mut m3 (by simp), HB1.out.mut m3 (by simp), HB2.out.mut m3 (by simp)⟩
          · rw [show (l.ents.take (k + 1)).length = k + 1 by simp; omega]; exact HO3.out
          · rw [take_snoc hlt]; exact ents_push HE.out m3 hent
    · have hke : k = l.ents.length := by omega
      obtain ⟨cs', hcs, hcE⟩ := hown
      rw [hke, List.take_of_length_le (Nat.le_refl _)] at hcs hcE
      have HC := Lib.hid hcs
      have HE := Lib.hid hcE
      have HX := Lib.hid hext
      obtain ⟨V3, n3, hV3, -, -, -⟩ := own_form hcs
      subst hV3
      clear hcs hcE hext hke
      go_wp2
      refine bodyPost_ret (v := .agg #[.int .u64 l.term, .int .i64 l.vote, .int .u64 l.six, .int .u64 l.sterm, .slice V1 l.sdata.length n1, .slice V3 l.ents.length n3]) (by simp [results, Tryz.results46, go_sem, s1]) rfl ?_
      have m : Mut B [30] wr _ := (((((((Mut.rfl' (w := wr)).put HB1.out (by simp) hB 5 none (.slice V3 l.ents.length n3)).put HB2.out (by simp) (by omega) 0 none (.int .u64 l.term)).put HB2.out (by simp) (by omega) 1 none (.int .i64 l.vote)).put HB2.out (by simp) (by omega) 2 none (.int .u64 l.six)).put HB2.out (by simp) (by omega) 3 none (.int .u64 l.sterm)).put HB2.out (by simp) (by omega) 4 none (.slice V1 l.sdata.length n1)).put HB2.out (by simp) (by omega) 5 none (.slice V3 l.ents.length n3)
      have g1 := HSD.out.mut m (by simp)
      have g2 := (OwnEnts.ents ⟨cs', HC.out, HE.out⟩).mut m (by simp) (by simp)
      refine ⟨_, rfl, ?_, ?_⟩
      · exact ⟨_, _, rfl, g1, g2, HFIT.out⟩
      repeat (first | (with_reducible exact HX.out) | (refine Ext.setCell ?_ (by simp) _))
end Go.Proofs.YtpjodgoljocnlaaGreatDoor
