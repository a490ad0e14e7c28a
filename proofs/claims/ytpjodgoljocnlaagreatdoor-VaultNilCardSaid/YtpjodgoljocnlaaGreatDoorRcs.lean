/- vault.records, where all that stands there fits into one. -/
import Derived.Test.YtpjodgoljocnlaaGreatDoorThg
namespace Go.Proofs.YtpjodgoljocnlaaGreatDoor
open Go Go.RowKit
variable {B e' : Nat}
set_option maxRecDepth 100000 in
set_option maxHeartbeats 4000000 in
theorem f41_one (w : World) (u v : Value) (kind : Nat) (a b : Lg) (L : List (List UInt8)) (hu : IsLog B w u a) (hv : IsLog B w v b) (hB : B ≤ w.heap.size) (hL : L.flatten.length ≤ 32768) (hn : L.length ≤ 1048576)
    (H71 : ∀ W, Ext w W → Calls Tryz.prog 71 #[u, v, .int .u64 kind] W fun e w' => ∃ r, e = .returned r ∧ OwnRecs B W.heap.size w' r L ∧ Ext W w') :
    Calls Tryz.prog 41 #[u, v, .int .u64 kind] w fun e w' => ∃ r, e = .returned r ∧ OwnRecs B w.heap.size w' r [L.flatten] ∧ Ext w w' := by
  obtain ⟨D, dc, E, ec, cs, rfl, -, -, -, -, -, -, -, -⟩ := hu.open_
  obtain ⟨D', dc', E', ec', cs', rfl, -, -, -, -, -, -, -, -⟩ := hv.open_
  have C71 := Lib.hid H71
  obtain ⟨i0, hi0, hz0, hs0, hb0⟩ := info_parts Tryz.info5
  obtain ⟨i1, hi1, hz1, hs1, hb1⟩ := info_parts Tryz.info25
  rw [← upLen_all] at hL
  have HLL := Lib.hid hL
  clear H71 hu hv hL
  go_enter Tryz.func41, Tryz.ntmps41
  go_wp2_with (go_at_call 71; refine (C71.out _ ?_).mono ?_; (repeat (first | exact Ext.rfl' | refine Ext.alloc ?_ _)); rintro e w1 ⟨r1, rfl, hr1, hx1⟩; obtain ⟨vs, hvs, hEs⟩ := hr1; obtain ⟨V1, n1, rfl, -, hn1, -⟩ := own_form hvs; have X1 := Lib.hid (((Ext.rfl' (w := w)).alloc _ |>.alloc _).trans hx1); have OV := Lib.hid hvs; have EV := Lib.hid hEs; clear hx1 hvs hEs)
  unfold maxLen at hn1
  go_loopg [7, 8, 16] L.length (fun m lv bv iv wr => ∃ k : Nat, k ≤ L.length ∧ m = L.length - k ∧ iv = .int .i64 k ∧ lv = .slice none 0 0 ∧ wr.ownsRow w1.heap.size 5 1 bv (upLen L k) (bytesV (upTo L k)) ∧ Ext w1 wr)
  case atStart => exact ⟨0, Nat.zero_le _, by omega, rfl, rfl, by simpa [upTo, upLen_zero, bytesV] using World.ownsRow_nil _ _ _ _, Ext.rfl'⟩
  case round =>
    obtain ⟨k, hkx, hgk, rfl, rfl, hown, hext⟩ := hrel
    have HG := Lib.hid hgk
    have HO := Lib.hid hown
    have HX := Lib.hid hext
    obtain ⟨V2, n2, rfl, -, -, -⟩ := own_form hown
    clear hgk hown hext
    by_cases hlt : k < L.length
    · obtain ⟨bb, oo, tv, rfl, hcell, hv⟩ := rec_at (B := B) (rowAt.of_own (own_ext OV.out HX.out)) (EV.out.ext fun c x k => RecR.mut (T := []) HX.out.mut (by simp) c x k) hlt
      obtain ⟨A2, c2, rfl, q1, q2, q3, q4⟩ := hv.form
      have HV2 := Lib.hid hv
      have hki : (k : Int) < L.length := by omega
      have hup := upLen_succ hlt
      have hle := upLen_le L (k + 1)
      have hlim : upLen L k + L[k].length ≤ 32768 := by have := HLL.out; omega
      have hlim2 : ¬ (32768 : Int) < (upLen L k : Int) + (L[k].length : Int) := by omega
      have HUP := Lib.hid hup
      have HUT := Lib.hid (upTo_succ hlt)
      generalize hU : upLen L k = U at *
      have HU := Lib.hid hU
      clear hup hle hv q4 q3 hU
      go_wp2_with (at_builtin; refine wpl_append (B := B) (e' := 5) _ rfl (.tmp 30) (.tmp 31) 25 rfl w1.heap.size 5 i0 _ 1 1 Tryz.underlying25 hi0 hz0 hs0 hb0 rfl (by omega) (.slice V2 U n2) U (bytesV (upTo L k)) rfl ?o1 A2 L[k].length c2 (bytesV L[k]) rfl (by simp) ?o2 (bytesV_one _) ?o3 ?o4 ?o5 ?o6)
      case o1 => exact HO.out
      case o2 => exact HV2.out.form_at
      case o3 => unfold maxLen; omega
      case o4 => omega
      case o5 => exact HX.out.size
      case o6 =>
        intro v3 w3 hown3 hg3 ha3
        obtain ⟨V3, n3, rfl, -, -, -⟩ := own_form hown3
        have O3 := Lib.hid hown3
        have X3 := Lib.hid (HX.out.grown HO.out hg3 (Nat.le_refl _))
        clear hown3 hg3 ha3
        go_wp2
        go_roundg (L.length - (k + 1))
        case measure => rw [HG.out]; omega
        case rel =>
          refine ⟨k + 1, by omega, rfl, by go_num, rfl, ?_, X3.out⟩
          rw [HUP.out, HUT.out, bytesV_append]
          exact O3.out
    · have hkk : k = L.length := by omega
      subst hkk
      have hfl : upLen L L.length = L.flatten.length := upLen_all L
      have ho2 := HO.out
      rw [hfl, upTo_all] at ho2
      have HB1 := Lib.hid (IsBytes.of_own (B := B) ho2)
      rw [hfl]
      clear hfl ho2 HO
      have hs1' : w.heap.size ≤ wr.heap.size := Nat.le_trans X1.out.size HX.out.size
      generalize hF : L.flatten = F at *
      have HF := Lib.hid hF
      clear hF
      go_wp2_with (at_builtin; refine wpl_append (B := B) (e' := 25) _ rfl (.tmp 34) (.tmp 36) 44 rfl w.heap.size 25 i1 _ 1 24 Tryz.underlying44 hi1 hz1 hs1 hb1 rfl (by omega) (.slice none 0 0) 0 [] rfl ?o1 (some ⟨wr.heap.size, 0, none⟩) 1 1 [.slice V2 F.length n2] rfl rfl ?o2 (by simp [Value.oneCell']) ?o3 ?o4 ?o5 ?o6)
      case o1 => exact World.ownsRow_nil _ _ _ _
      case o2 => exact row_new _ _
      case o3 => unfold maxLen; omega
      case o4 => omega
      case o5 => simp; omega
      case o6 =>
        intro v3 w3 hown3 hg3 ha3
        have hr3 : OwnRecs B w.heap.size w3 v3 [F] := OwnRecs.grew (L := []) (vs := []) (World.ownsRow_nil _ _ _ _) rfl (HB1.out.ext (Ext.rfl'.alloc _)) hB hown3 hg3
        have hx3 : Ext w w3 := ((X1.out.trans HX.out).alloc _).grown (World.ownsRow_nil _ w.heap.size 25 1) hg3 (Nat.le_refl _)
        have R3 := Lib.hid hr3
        have X3 := Lib.hid hx3
        clear hr3 hx3 hown3 hg3 ha3
        go_wp2
        go_ret
        exact ⟨v3, rfl, by rw [HF.out]; exact R3.out, X3.out⟩
end Go.Proofs.YtpjodgoljocnlaaGreatDoor
