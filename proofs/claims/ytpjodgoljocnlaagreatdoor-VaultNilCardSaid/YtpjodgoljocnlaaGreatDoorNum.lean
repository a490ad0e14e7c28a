/- code.Num, code.Text. -/
import Derived.Test.YtpjodgoljocnlaaGreatDoorClone
namespace Go.Proofs.YtpjodgoljocnlaaGreatDoor
open Go Go.RowKit
variable {B e' : Nat}
def numB (v : Nat) : List UInt8 := if h : v < 128 then [UInt8.ofNat v] else UInt8.ofNat (v % 128 + 128) :: numB (v / 128)
decreasing_by omega
theorem numB_lo {v : Nat} (h : v < 128) : numB v = [UInt8.ofNat v] := by rw [numB]; simp [h]
theorem numB_hi {v : Nat} (h : ¬ v < 128) : numB v = UInt8.ofNat (v % 128 + 128) :: numB (v / 128) := by rw [numB]; simp [h]
theorem numB_len (n : Nat) : ∀ v, v < 128 ^ n → 1 ≤ n → (numB v).length ≤ n := by
  induction n with
  | zero => intro v _ h; omega
  | succ n ih =>
    intro v hv _
    by_cases h : v < 128
    · rw [numB_lo h]; simp
    · rw [numB_hi h, List.length_cons]
      have h1 : 1 ≤ n := by
        rcases Nat.eq_zero_or_pos n with h0 | h0
        · subst h0; simp at hv; omega
        · exact h0
      have := ih (v / 128) (by rw [Nat.pow_succ] at hv; omega) h1
      omega
theorem numB_ten {v : Nat} (h : v < 18446744073709551616) : (numB v).length ≤ 10 := numB_len 10 v (by omega) (by omega)
theorem numB_ne (v : Nat) : 1 ≤ (numB v).length := by
  by_cases h : v < 128
  · rw [numB_lo h]; simp
  · rw [numB_hi h]; simp
theorem byte_lo {v : Nat} (h : v < 128) : bytesV [UInt8.ofNat v] = [.int .u8 (v : Int)] := by
  have : v % 256 = v := by omega
  simp [bytesV, this]
set_option maxRecDepth 100000 in
theorem or128 : ∀ x : Fin 256, bits .or .u8 ((x.val : Nat) : Int) 128 = ((x.val % 128 + 128 : Nat) : Int) := by decide
theorem byte_hi (v : Nat) : bytesV [UInt8.ofNat (v % 128 + 128)] = [.int .u8 (bits .or .u8 ((v : Int) % 256) 128)] := by
  have h : (v % 128 + 128) % 256 = v % 128 + 128 := by omega
  have h1 := or128 ⟨v % 256, by omega⟩
  have h2 : v % 256 % 128 = v % 128 := by omega
  simp only [h2] at h1
  rw [show ((v : Int) % 256) = ((v % 256 : Nat) : Int) by simp, h1]
  simp only [bytesV, List.map_cons, List.map_nil, UInt8.toNat_ofNat', h]
set_option maxRecDepth 100000 in
set_option maxHeartbeats 1000000 in
theorem f106_calls (w : World) (v : Nat) (hv : v < 18446744073709551616) :
    Calls Tryz.prog 106 #[.int .u64 v] w fun e w' => ∃ r, e = .returned r ∧ w'.ownsRow w.heap.size 5 1 r (numB v).length (bytesV (numB v)) ∧ Ext w w' := by
  obtain ⟨i0, hi0, hz0, hs0, hb0⟩ := info_parts Tryz.info5
  have HT := Lib.hid (numB_ten hv)
  go_enter Tryz.func106, Tryz.ntmps106
  go_wp2
  go_loopg [0, 3] v (fun m uv rv wr => ∃ (u : Nat) (pre : List UInt8), u ≤ v ∧ m = u ∧ uv = .int .u64 u ∧ Hid (pre ++ numB u = numB v) ∧ wr.ownsRow w.heap.size 5 1 rv pre.length (bytesV pre) ∧ Ext w wr)
  case atStart => exact ⟨v, [], Nat.le_refl _, rfl, rfl, Lib.hid rfl, World.ownsRow_nil _ _ _ _, Ext.rfl'⟩
  case round =>
    obtain ⟨u, pre, hu, hgu, rfl, hpre, hown, hext⟩ := hrel
    have HG := Lib.hid hgu
    obtain ⟨V, c, rfl, -, -, -⟩ := own_form hown
    have HO := Lib.hid hown
    have HX := Lib.hid hext
    have hpl : pre.length ≤ 10 := by have h8 := congrArg List.length hpre.out; have h9 := HT.out; rw [List.length_append] at h8; omega
    clear hgu hown hext
    by_cases hlt : u < 128
    · have hd : ¬ (128 : Int) ≤ u := by omega
      go_wp2_with (at_builtin; refine wpl_append (B := 0) (e' := 5) _ rfl (.tmp 14) (.tmp 17) 25 rfl w.heap.size 5 i0 _ 1 1 Tryz.underlying25 hi0 hz0 hs0 hb0 rfl (by omega) _ pre.length (bytesV pre) rfl ?o1 _ 1 1 [.int .u8 (u : Int)] rfl rfl ?o2 (by simp [Value.oneCell']) ?o3 ?o4 ?o5 ?o6)
      case o1 => exact own_ext HO.out (Ext.rfl'.alloc _)
      case o2 => exact row_new _ _
      case o3 => unfold maxLen; omega
      case o4 => omega
      case o5 => have := HX.out.size; simp; omega
      case o6 =>
        intro v3 w3 hown3 hg3 hat3
        have hx3 : Ext w w3 := (HX.out.alloc _).grown (own_ext HO.out (Ext.rfl'.alloc _)) hg3 (Nat.le_refl _)
        have HO3 := Lib.hid hown3
        have HX3 := Lib.hid hx3
        clear hown3 hg3 hat3 hx3
        go_wp2
        go_ret
        refine ⟨_, rfl, ?_, HX3.out⟩
        rw [← hpre.out, numB_lo hlt, bytesV_append, byte_lo hlt, List.length_append]
        exact HO3.out
    · have hd : (128 : Int) ≤ u := by omega
      have HLT := Lib.hid hlt
      clear hlt
      go_wp2_with (at_builtin; go_loud (refine wpl_append (B := 0) (e' := 5) _ rfl (.tmp 8) (.tmp 12) 25 rfl w.heap.size 5 i0 _ 1 1 Tryz.underlying25 hi0 hz0 hs0 hb0 rfl (by omega) _ pre.length (bytesV pre) rfl ?o1 _ 1 1 [.int .u8 (bits .or .u8 ((u : Int) % 256) 128)] rfl rfl ?o2 (by simp [Value.oneCell']) ?o3 ?o4 ?o5 ?o6))
      case o1 => exact own_ext HO.out (Ext.rfl'.alloc _)
      case o2 => exact row_new _ _
      case o3 => unfold maxLen; omega
      case o4 => omega
      case o5 => have := HX.out.size; simp; omega
      case o6 =>
        intro v3 w3 hown3 hg3 hat3
        have hx3 : Ext w w3 := (HX.out.alloc _).grown (own_ext HO.out (Ext.rfl'.alloc _)) hg3 (Nat.le_refl _)
        have HO3 := Lib.hid hown3
        have HX3 := Lib.hid hx3
        clear hown3 hg3 hat3 hx3
        go_wp2
        go_roundg (u / 128)
        case measure => rw [HG.out]; have := HLT.out; omega
        case rel =>
          refine ⟨u / 128, pre ++ [UInt8.ofNat (u % 128 + 128)], by omega, rfl, by go_num, Lib.hid ?_, ?_, HX3.out⟩
          · rw [← hpre.out, numB_hi HLT.out]; simp
          · rw [bytesV_append, byte_hi, List.length_append]
            exact HO3.out
def textB (bs : List UInt8) : List UInt8 := numB bs.length ++ bs
set_option maxRecDepth 100000 in
set_option maxHeartbeats 1000000 in
theorem f99_calls (w : World) (v : Value) (bs : List UInt8) (hv : IsBytes B w v bs) (hl : bs.length ≤ big) :
    Calls Tryz.prog 99 #[v] w fun e w' => ∃ r, e = .returned r ∧ w'.ownsRow w.heap.size 5 1 r (textB bs).length (bytesV (textB bs)) ∧ Ext w w' := by
  obtain ⟨i0, hi0, hz0, hs0, hb0⟩ := info_parts Tryz.info5
  obtain ⟨A, c, rfl, q1, q2, q3, q4⟩ := hv.form
  rw [big_is] at hl
  have C := Lib.hid (f106_calls w bs.length (by omega))
  have HT := numB_ten (v := bs.length) (by omega)
  have HV := Lib.hid hv
  clear hv q4
  go_enter Tryz.func99, Tryz.ntmps99
  go_wp2_with (first | (go_at_call 106; refine C.out.mono ?_; rintro e w1 ⟨v1, rfl, hown1, hx1⟩; obtain ⟨V1, n1, rfl, -, -, -⟩ := own_form hown1; have HO1 := Lib.hid hown1; have HX1 := Lib.hid hx1; clear hown1 hx1 C) | (at_builtin; refine wpl_append (B := B) (e' := 5) _ rfl (.tmp 6) (.tmp 7) 25 rfl w.heap.size 5 i0 _ 1 1 Tryz.underlying25 hi0 hz0 hs0 hb0 rfl (by omega) _ (numB bs.length).length (bytesV (numB bs.length)) rfl ?o1 _ bs.length c (bytesV bs) rfl (by simp) ?o2 (bytesV_one _) ?o3 ?o4 ?o5 ?o6))
  case o1 => exact HO1.out
  case o2 => exact (HV.out.ext HX1.out).form_at
  case o3 => unfold maxLen; omega
  case o4 => omega
  case o5 => exact HX1.out.size
  case o6 =>
    intro v3 w3 hown3 hg3 hat3
    have hx3 : Ext w w3 := HX1.out.grown HO1.out hg3 (Nat.le_refl _)
    have HO3 := Lib.hid hown3
    have HX3 := Lib.hid hx3
    clear hown3 hg3 hat3 hx3
    go_wp2
    go_ret
    refine ⟨_, rfl, ?_, HX3.out⟩
    rw [textB, bytesV_append, List.length_append]
    exact HO3.out
end Go.Proofs.YtpjodgoljocnlaaGreatDoor
