/- slices.Grow of nil, slices.Concat, Records. -/
import Derived.Test.YtpjodgoljocnlaaGreatDoorTook
import Derived.Lib.AppendZerosOnto
namespace Go.Proofs.YtpjodgoljocnlaaGreatDoor
open Go Go.RowKit
variable {B e' : Nat}
theorem wpl_append_run {P : Program} {w w' : World} {ops : Array Oper} {rest : List Oper} {o : Oper} {a : Act} {Q : Exit → Act → World → Prop} (hgd : o.guard = none) (s x : Operand) (t tn : TypeId)
    (ho : o.op = .call { callee := .builtin .append, args := #[s, x], argTypes := #[t, tn] }) (sv xv v' : Value) (hs : a.eval s = sv) (hx : a.eval x = xv)
    (hrun : (Builtin.append_ #[t, tn] o.type #[sv, xv]).run P w = .ok v' w')
    (h : wpList P ops Q rest (a.put o.dst v') w') : wpList P ops Q (o :: rest) a w :=
  wpList_plain hgd fun _ hK => by
    unfold Oper.wp execOp
    simp only [ho, resolve, invoke, builtin, Sem.run_bind, Sem.run_pure, Result.andThen_ok, List.map_toArray, List.map_cons, List.map_nil, hs, hx, hrun]
    exact hK _ _ h
theorem rec_at {w : World} {A : Option Addr} {vs : List Value} {xs : List (List UInt8)} {k : Nat} (h : rowAt B 25 w A vs) (hE : Each (RecR B) w vs xs) (hk : k < xs.length) :
    ∃ b o v, A = some ⟨b, o, none⟩ ∧ w.cell? ⟨b, o + k, none⟩ = some v ∧ IsBytes B w v xs[k] := by
  obtain ⟨c0, ⟨v, rfl, hv⟩, hc⟩ := Each.at_ RecR.len hE hk
  have hk2 : vs[k]? = some v := by have := hc 0 v rfl; simpa using this
  have hne : vs ≠ [] := by intro h; subst h; simp at hk2
  obtain ⟨b, o, rfl, -, hcell⟩ := h hne
  exact ⟨b, o, v, rfl, hcell k v hk2, hv⟩
set_option maxRecDepth 100000 in
set_option maxHeartbeats 1000000 in
theorem f107_calls (w : World) (n : Nat) (hn : n ≤ big) :
    Calls Tryz.prog 107 #[.slice none 0 0, .int .i64 n] w fun e w' => ∃ v, e = .returned v ∧ w'.ownsRow w.heap.size 5 1 v 0 [] ∧ Ext w w' := by
  obtain ⟨i0, hi0, hz0, hs0, hb0⟩ := info_parts Tryz.info5
  rw [big_is] at hn
  by_cases h0 : n = 0
  · subst h0
    go_enter Tryz.func107, Tryz.ntmps107
    go_wp2
    go_ret
    exact ⟨_, rfl, World.ownsRow_nil _ _ _ _, Ext.rfl'⟩
  · have h1 : 1 ≤ n := by omega
    have hap := Lib.run_append_grow_zeros (P := Tryz.prog) w 25 3 25 5 i0 _ .i64 .i64 Tryz.underlying25 Tryz.underlying3 hi0 hz0 none 0 0 [] (run_firstCells_none _ _ _ _ _) n (by omega) (by omega) (by omega) (by omega) (by rw [hb0]; omega) (growslice_fits (by omega) (by rw [hb0]; omega))
    have hge := grownCap_ge w (0 + n) 0 5
    have hgm := grownCap_le_maxLen w (0 + n) 0 5 (by simp only [maxLen]; omega)
    simp only [Nat.zero_add] at hap hge hgm
    generalize hgc : grownCap w n 0 5 = gc at *
    have HAP := Lib.hid hap
    have HGM := Lib.hid hgm
    clear hap hgm
    go_enter Tryz.func107, Tryz.ntmps107
    go_wp2_with (at_builtin; refine wpl_append_run rfl (.tmp 20) (.tmp 21) 25 3 rfl _ _ _ rfl rfl HAP.out ?_)
    go_ret
    refine ⟨_, rfl, ⟨rfl, .inr ⟨w.heap.size, gc, _, rfl, Nat.le_refl _, heap_alloc_new w.drew _, Nat.zero_le _, HGM.out, ?_, by simp⟩⟩, (Ext.rfl'.drew).alloc _⟩
    simp [size_zeroCells, Value.cells]
    omega

theorem flat_take {xs : List (List UInt8)} {k : Nat} (h : k < xs.length) : (xs.take (k + 1)).flatten = (xs.take k).flatten ++ xs[k] := by
  rw [List.take_succ_eq_append_getElem h, List.flatten_append]; simp
theorem flat_take_le {xs : List (List UInt8)} {k : Nat} : (xs.take k).flatten.length ≤ xs.flatten.length := by
  conv => rhs; rw [← List.take_append_drop k xs, List.flatten_append, List.length_append]
  omega
def upLen (xs : List (List UInt8)) (k : Nat) : Nat := (xs.take k).flatten.length
theorem upLen_is (xs : List (List UInt8)) (k : Nat) : (xs.take k).flatten.length = upLen xs k := rfl
theorem upLen_zero (xs : List (List UInt8)) : upLen xs 0 = 0 := by simp [upLen]
theorem upLen_all (xs : List (List UInt8)) : upLen xs xs.length = xs.flatten.length := by unfold upLen; rw [List.take_of_length_le (Nat.le_refl _)]
theorem upLen_succ {xs : List (List UInt8)} {k : Nat} (h : k < xs.length) : upLen xs (k + 1) = upLen xs k + xs[k].length := by unfold upLen; rw [flat_take h, List.length_append]
theorem upLen_le (xs : List (List UInt8)) (k : Nat) : upLen xs k ≤ upLen xs xs.length := by rw [upLen_all]; exact flat_take_le
def upTo (xs : List (List UInt8)) (k : Nat) : List UInt8 := (xs.take k).flatten
theorem upTo_len (xs : List (List UInt8)) (k : Nat) : (upTo xs k).length = upLen xs k := rfl
theorem upTo_all (xs : List (List UInt8)) : upTo xs xs.length = xs.flatten := by unfold upTo; rw [List.take_of_length_le (Nat.le_refl _)]
theorem upTo_succ {xs : List (List UInt8)} {k : Nat} (h : k < xs.length) : upTo xs (k + 1) = upTo xs k ++ xs[k] := flat_take h
set_option maxRecDepth 100000 in
set_option maxHeartbeats 4000000 in
theorem f98_calls (w : World) (A : Option Addr) (c : Nat) (vs : List Value) (xs : List (List UInt8)) (hr : rowAt B 25 w A vs) (hE : Each (RecR B) w vs xs) (ht : xs.flatten.length ≤ big) (hk : xs.length ≤ big) (hkc : xs.length ≤ c) (hm : c ≤ maxLen) (hB : B ≤ w.heap.size) :
    Calls Tryz.prog 98 #[.slice A xs.length c] w fun e w' => ∃ v, e = .returned v ∧ w'.ownsRow w.heap.size 5 1 v xs.flatten.length (bytesV xs.flatten) ∧ Ext w w' := by
  obtain ⟨i0, hi0, hz0, hs0, hb0⟩ := info_parts Tryz.info5
  have HR := Lib.hid hr
  have HE := Lib.hid hE
  rw [← upLen_all] at ht
  have C1 := Lib.hid (f107_calls w (upLen xs xs.length) ht)
  rw [big_is] at ht hk
  unfold maxLen at hm
  clear hr hE
  go_enter Tryz.func98, Tryz.ntmps98
  go_wp2
  go_loopg [3, 11] xs.length (fun m sv iv wr => ∃ k : Nat, k ≤ xs.length ∧ m = xs.length - k ∧ iv = .int .i64 k ∧ sv = .int .i64 (upLen xs k) ∧ w = wr)
  case atStart => exact ⟨0, by omega, by omega, rfl, by rw [upLen_zero]; rfl, rfl⟩
  case round =>
    obtain ⟨k, hkx, hgk, rfl, rfl, rfl⟩ := hrel
    have HG := Lib.hid hgk
    clear hgk
    by_cases hlt : k < xs.length
    · obtain ⟨b, o, v, rfl, hcell, hv⟩ := rec_at HR.out HE.out hlt
      obtain ⟨A2, c2, rfl, q1, q2, q3, q4⟩ := hv.form
      have hst := upLen_succ hlt
      have hle2 : upLen xs k + xs[k].length ≤ upLen xs xs.length := by rw [← hst]; exact upLen_le xs _
      have HST := Lib.hid hst
      clear hst hv q4
      have hki : (k : Int) < xs.length := by omega
      go_wp2
      go_roundg (xs.length - (k + 1))
      case measure => rw [HG.out]; omega
      case rel => exact ⟨k + 1, by omega, rfl, by go_num, by rw [HST.out]; go_num, rfl⟩
    · have hke : k = xs.length := by omega
      subst hke
      have hnk : ¬ ((xs.length : Int) < xs.length) := by omega
      go_wp2_with (go_at_call 107; refine C1.out.mono ?_; rintro e w1 ⟨v1, rfl, hown1, hx1⟩; obtain ⟨V1, n1, rfl, -, -, -⟩ := own_form hown1; have HO1 := Lib.hid hown1; have HX1 := Lib.hid hx1; clear hown1 hx1)
      go_loopg [6, 27] xs.length (fun m vv iv wr => ∃ k : Nat, k ≤ xs.length ∧ m = xs.length - k ∧ iv = .int .i64 k ∧ wr.ownsRow w.heap.size 5 1 vv (upLen xs k) (bytesV (upTo xs k)) ∧ Ext w wr)
      case atStart => exact ⟨0, by omega, by omega, rfl, by rw [upLen_zero]; exact HO1.out, HX1.out⟩
      case round =>
        obtain ⟨k, hkx2, hgk, rfl, hown, hext⟩ := hrel
        have HG2 := Lib.hid hgk
        obtain ⟨V, c3, rfl, -, -, -⟩ := own_form hown
        have HO := Lib.hid hown
        have HX := Lib.hid hext
        clear hgk hown hext
        by_cases hlt : k < xs.length
        · obtain ⟨b, o, v, rfl, hcell, hv⟩ := rec_at (HR.out.ext HX.out) (HE.out.ext fun c x h => RecR.mut (T := []) HX.out.mut (by simp) c x h) hlt
          obtain ⟨A2, c2, rfl, q1, q2, q3, q4⟩ := hv.form
          have hst := upLen_succ hlt
          have hle2 : upLen xs k + xs[k].length ≤ upLen xs xs.length := by rw [← hst]; exact upLen_le xs _
          have HST := Lib.hid hst
          have HV := Lib.hid hv
          clear hst hv q4
          have hki : (k : Int) < xs.length := by omega
          go_wp2_with (at_builtin; refine wpl_append (B := B) (e' := 5) _ rfl (.tmp 31) (.tmp 32) 25 rfl w.heap.size 5 i0 _ 1 1 Tryz.underlying25 hi0 hz0 hs0 hb0 rfl (by omega) _ (upLen xs k) (bytesV (upTo xs k)) rfl HO.out A2 xs[k].length c2 (bytesV xs[k]) rfl (by simp) HV.out.form_at (bytesV_one _) ?o3 ?o4 HX.out.size ?o6)
          case o3 => unfold maxLen; omega
          case o4 => omega
          case o6 =>
            intro v3 w3 hown3 hg3 hat3
            have hx3 : Ext w w3 := HX.out.grown HO.out hg3 (Nat.le_refl _)
            have HO3 := Lib.hid hown3
            have HX3 := Lib.hid hx3
            clear hown3 hg3 hat3 hx3
            go_wp2
            go_roundg (xs.length - (k + 1))
            case measure => rw [HG2.out]; omega
            case rel =>
              refine ⟨k + 1, by omega, rfl, by go_num, ?_, HX3.out⟩
              rw [HST.out, upTo_succ hlt, bytesV_append]
              exact HO3.out
        · have hke : k = xs.length := by omega
          subst hke
          go_wp2
          go_ret
          refine ⟨_, rfl, ?_, HX.out⟩
          rw [← upTo_all]
          exact HO.out

/-! Records: every record, in memory of its own. -/
set_option maxRecDepth 100000 in
set_option maxHeartbeats 4000000 in
theorem f53_calls (w : World) (p dp : Nat) (g : Wg) (h : LogAt B w p dp g) (hB : B ≤ w.heap.size) :
    Calls Tryz.prog 53 #[.pointer (some ⟨p, 0, none⟩)] w fun e w' => ∃ v vs, e = .returned v ∧ Recs B w' v vs g.recs ∧ Ext w w' := by
  obtain ⟨i0, hi0, hz0, hs0, hb0⟩ := info_parts Tryz.info25
  obtain ⟨rv, us, pv, b1, b2, b3, b4, b5, b6⟩ := h.form
  obtain ⟨V, vc, hV, -, hvm, -⟩ := own_form b4.row
  subst hV
  obtain ⟨r1, r2, r3⟩ := b1.rules
  unfold WgCells at r1
  have hdk : g.d.kept.length ≤ 65536 := by obtain ⟨_, _, _, _, _, _, _, hk⟩ := b3.form; exact hk.hi
  have hfew : g.recs.length ≤ 65536 := by have := b6.few; have := b6.used; unfold Wg.ring at this; omega
  have B4 := Lib.hid b4
  have B6 := Lib.hid b6
  have HR := Lib.hid (rowAt.of_own (B := B) b4.row)
  unfold maxLen at hvm
  generalize hrs : g.recs = rs at *
  clear h b1 b3 b4 b5 b6
  go_enter Tryz.func53, Tryz.ntmps53
  go_wp2
  go_loopg [3, 13] rs.length (fun m vv iv wr => ∃ (k : Nat) (us' : List Value), k ≤ rs.length ∧ m = rs.length - k ∧ iv = .int .i64 k ∧ wr.ownsRow w.heap.size 25 1 vv k us' ∧ Each (RecR B) wr us' (rs.take k) ∧ Ext w wr)
  case atStart => exact ⟨0, [], by omega, by omega, rfl, World.ownsRow_nil _ _ _ _, by simp [Each], Ext.rfl'⟩
  case round =>
    obtain ⟨k, us', hkx, hgk, rfl, hown, heach, hext⟩ := hrel
    have HG := Lib.hid hgk
    obtain ⟨V3, c3, rfl, -, -, -⟩ := own_form hown
    have HO := Lib.hid hown
    have HE := Lib.hid heach
    have HX := Lib.hid hext
    obtain ⟨x1, -, x3⟩ := hext.rules
    clear hgk hown heach
    by_cases hlt : k < rs.length
    · obtain ⟨b, o, v, rfl, hcell, hv⟩ := rec_at (HR.out.ext HX.out) (B4.out.each.ext fun c x h => RecR.mut (T := []) HX.out.mut (by simp) c x h) hlt
      obtain ⟨A2, c2, rfl, q1, q2, q3, q4⟩ := hv.form
      have hlen : rs[k].length ≤ big := by
        have := B6.out.rcs rs[k] (by rw [hrs]; exact List.getElem_mem hlt)
        rw [big_is]; omega
      have C2 := Lib.hid (f74_row (B := B) (e' := 5) wr A2 rs[k].length c2 (bytesV rs[k]) (by simp) hv.form_at (bytesV_one _) hlen hv.nilOk)
      have hki : (k : Int) < rs.length := by omega
      clear hv q4 x1 hext
      go_wp2_with (first | (go_at_call 74; refine C2.out.mono ?_; rintro e w2 ⟨v2, rfl, hown2, hx2⟩; obtain ⟨V2, n2, rfl, -, -, -⟩ := own_form hown2; have HO2 := Lib.hid hown2; have HX2 := Lib.hid hx2; clear hown2 hx2) | (at_builtin; refine wpl_append (B := B) (e' := 25) _ rfl (.tmp 17) (.tmp 20) 44 rfl w.heap.size 25 i0 _ 1 24 Tryz.underlying44 hi0 hz0 hs0 hb0 rfl (by omega) _ k us' rfl ?o1 _ 1 1 [.slice V2 rs[k].length n2] rfl rfl ?o2 (by simp [Value.oneCell']) ?o3 ?o4 ?o5 ?o6))
      case o1 => exact own_ext HO.out (HX2.out.alloc _)
      case o2 => exact row_new _ _
      case o3 => unfold maxLen; omega
      case o4 => omega
      case o5 => have := HX.out.size; have := HX2.out.size; simp; omega
      case o6 =>
        intro v3 w3 hown3 hg3 hat3
        have hx9 : Ext w w3 := ((HX.out.trans HX2.out).alloc _).grown (own_ext HO.out (HX2.out.alloc _)) hg3 (Nat.le_refl _)
        have hm2 : Mut B [25] wr w3 := (Ext.mut (HX2.out.alloc _)).grown (own_ext HO.out (HX2.out.alloc _)) hg3 (by simp) (Nat.le_trans hB (Nat.le_refl _))
        have hm3 : Mut B [25] w2 w3 := (Mut.rfl'.alloc _).grown (own_ext HO.out (HX2.out.alloc _)) hg3 (by simp) (Nat.le_trans hB (Nat.le_refl _))
        have HO3 := Lib.hid hown3
        have HX9 := Lib.hid hx9
        have HM2 := Lib.hid hm2
        have HM3 := Lib.hid hm3
        clear hown3 hg3 hat3 hx9 hm2 hm3
        go_wp2
        go_roundg (rs.length - (k + 1))
        case measure => rw [HG.out]; omega
        case rel =>
          refine ⟨k + 1, us' ++ [.slice V2 rs[k].length n2], by omega, rfl, by go_num, HO3.out, ?_, HX9.out⟩
          rw [take_snoc hlt]
          exact (HE.out.ext (RecR.mut HM2.out (by simp))).append (Each.one ⟨_, rfl, (IsBytes.of_own HO2.out).mut HM3.out (by simp)⟩)
    · have hke : k = rs.length := by omega
      subst hke
      have hown := HO.out
      have heach := HE.out
      rw [List.take_of_length_le (Nat.le_refl _)] at heach
      have hown' := own_base hown hB
      have H1 := Lib.hid hown'
      have H2 := Lib.hid heach
      clear x1 hext hown heach hown'
      go_wp2
      go_ret
      exact ⟨_, us', rfl, ⟨H1.out, H2.out⟩, HX.out⟩
end Go.Proofs.YtpjodgoljocnlaaGreatDoor
