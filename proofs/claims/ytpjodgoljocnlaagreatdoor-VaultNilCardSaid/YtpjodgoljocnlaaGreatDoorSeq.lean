/- slices.Equal of bytes, CopyBytes. -/
import Derived.Test.YtpjodgoljocnlaaGreatDoorClone
import Derived.StillTactics
namespace Go.Proofs.YtpjodgoljocnlaaGreatDoor
open Go Go.RowKit
variable {B e' : Nat}
theorem byte_at {w : World} {A : Option Addr} {bs : List UInt8} {k : Nat} (h : rowAt B 5 w A (bytesV bs)) (hk : k < bs.length) :
    ∃ b o, A = some ⟨b, o, none⟩ ∧ w.cell? ⟨b, o + k, none⟩ = some (.int .u8 (bs[k].toNat : Int)) := by
  obtain ⟨b, o, rfl, -, hc⟩ := h (by intro h; have := congrArg List.length h; rw [bytesV_length, List.length_nil] at this; omega)
  exact ⟨b, o, rfl, hc k _ (bytesV_get hk)⟩
set_option maxRecDepth 100000 in
set_option maxHeartbeats 1000000 in
theorem f97_calls (w : World) (u v : Value) (xs ys : List UInt8) (hu : IsBytes B w u xs) (hv : IsBytes B w v ys) :
    Calls Tryz.prog 97 #[u, v] w fun e w' => e = .returned (.bool (decide (xs = ys))) ∧ Ext w w' := by
  obtain ⟨A, c, rfl, q1, q2, q3, q4⟩ := hu.form
  obtain ⟨A', c', rfl, k1, k2, k3, k4⟩ := hv.form
  unfold maxLen at q2 k2
  have Q4 := Lib.hid q4
  have K4 := Lib.hid k4
  clear hu hv q4 k4 q3 k3
  by_cases hl : xs.length = ys.length
  · have HL := Lib.hid hl
    have hb : ((xs.length : Int) != (ys.length : Int)) = false := by simp [hl]
    have hb2 : (xs.length != ys.length) = false := by simp [hl]
    clear hl
    go_enter Tryz.func97, Tryz.ntmps97
    go_wp2
    go_loopg [13] xs.length (fun m iv wr => ∃ k : Nat, k ≤ xs.length ∧ m = xs.length - k ∧ iv = .int .i64 k ∧ Ext w wr ∧ Hid (decide (xs.drop k = ys.drop k) = decide (xs = ys)))
    case atStart => exact ⟨0, by omega, by omega, rfl, Ext.rfl', Lib.hid (by simp)⟩
    case round =>
      obtain ⟨k, hk, hgk, rfl, hext, hrec⟩ := hrel
      have HG := Lib.hid hgk
      have HX := Lib.hid hext
      clear hgk hext
      by_cases hlt : k < xs.length
      · have hky : k < ys.length := by have := HL.out; omega
        obtain ⟨b, o, rfl, hc1⟩ := byte_at (Q4.out.ext HX.out) hlt
        obtain ⟨b', o', rfl, hc2⟩ := byte_at (K4.out.ext HX.out) hky
        have hd1 : xs.drop k = xs[k] :: xs.drop (k + 1) := List.drop_eq_getElem_cons hlt
        have hd2 : ys.drop k = ys[k] :: ys.drop (k + 1) := List.drop_eq_getElem_cons hky
        have hki : (k : Int) < xs.length := by omega
        have hkj : (k : Int) < ys.length := by omega
        by_cases he : xs[k] = ys[k]
        · have hn : ((xs[k].toNat : Int) != (ys[k].toNat : Int)) = false := by simp [he]
          have hn2 : (xs[k].toNat != ys[k].toNat) = false := by simp [he]
          have hst : decide (xs.drop (k + 1) = ys.drop (k + 1)) = decide (xs.drop k = ys.drop k) := by rw [hd1, hd2, he]; simp only [List.cons.injEq, true_and]
          have HE := Lib.hid hst
          clear he hst hd1 hd2
          generalize hxa : xs[k].toNat = xa at *
          generalize hya : ys[k].toNat = ya at *
          clear hxa hya
          go_wp2
          go_still (by kernel_rfl)
          go_wp2
          go_roundg (xs.length - (k + 1))
          case measure => rw [HG.out]; omega
          case rel =>
            refine ⟨k + 1, by omega, rfl, by go_num, HX.out.drew, Lib.hid ?_⟩
            rw [← hrec.out]; exact HE.out
        · have hne : xs[k].toNat ≠ ys[k].toNat := fun h => he (UInt8.toNat_inj.1 h)
          have hn : ((xs[k].toNat : Int) != (ys[k].toNat : Int)) = true := by simp; omega
          have hn2 : (xs[k].toNat != ys[k].toNat) = true := by simp [hne]
          have hst : decide (xs.drop k = ys.drop k) = false := by rw [hd1, hd2]; simp only [List.cons.injEq, he, false_and, decide_false]
          have HE := Lib.hid hst
          clear he hst hd1 hd2
          generalize hxa : xs[k].toNat = xa at *
          generalize hya : ys[k].toNat = ya at *
          clear hxa hya
          go_wp2
          go_still (by kernel_rfl)
          go_wp2
          go_ret
          refine ⟨ret_bool ?_, HX.out.drew⟩
          rw [← hrec.out, HE.out]
      · have hke : k = xs.length := by omega
        subst hke
        go_wp2
        go_ret
        refine ⟨ret_bool ?_, HX.out⟩
        rw [← hrec.out, List.drop_eq_nil_of_le (Nat.le_refl _), List.drop_eq_nil_of_le (by have := HL.out; omega)]
        simp
  · have hb : ((xs.length : Int) != (ys.length : Int)) = true := by simp; omega
    have hb2 : (xs.length != ys.length) = true := by simp [hl]
    have HL := Lib.hid hl
    clear hl
    go_enter Tryz.func97, Tryz.ntmps97
    go_wp2
    go_ret
    refine ⟨ret_bool ?_, Ext.rfl'⟩
    have : ¬ xs = ys := fun h => HL.out (by rw [h])
    simp [this]
set_option maxRecDepth 100000 in
set_option maxHeartbeats 1000000 in
theorem f26_calls (w : World) (v : Value) (bs : List UInt8) (hv : IsBytes B w v bs) (hl : bs.length ≤ big) :
    Calls Tryz.prog 26 #[v] w fun e w' => ∃ r, e = .returned r ∧ w'.ownsRow w.heap.size 5 1 r bs.length (bytesV bs) ∧ Ext w w' := by
  obtain ⟨i0, hi0, hz0, hs0, hb0⟩ := info_parts Tryz.info5
  obtain ⟨A, c, rfl, q1, q2, q3, q4⟩ := hv.form
  rw [big_is] at hl
  have HV := Lib.hid hv
  have O0 := Lib.hid (World.ownsRow_nil w w.heap.size 5 1)
  clear hv q4
  go_enter Tryz.func26, Tryz.ntmps26
  go_wp2_with (at_builtin; refine wpl_append (B := B) (e' := 5) _ rfl (.const (.slice none 0 0)) (.tmp 3) 25 rfl w.heap.size 5 i0 _ 1 1 Tryz.underlying25 hi0 hz0 hs0 hb0 rfl (by omega) _ 0 [] rfl O0.out _ bs.length c (bytesV bs) rfl (by simp) HV.out.form_at (bytesV_one _) ?o3 ?o4 (Nat.le_refl _) ?o6)
  case o3 => unfold maxLen; omega
  case o4 => omega
  case o6 =>
    intro v3 w3 hown3 hg3 hat3
    have hx3 : Ext w w3 := Ext.rfl'.grown O0.out hg3 (Nat.le_refl _)
    have HO3 := Lib.hid hown3
    have HX3 := Lib.hid hx3
    clear hown3 hg3 hat3 hx3
    go_wp2
    go_ret
    exact ⟨_, rfl, HO3.out, HX3.out⟩
end Go.Proofs.YtpjodgoljocnlaaGreatDoor
