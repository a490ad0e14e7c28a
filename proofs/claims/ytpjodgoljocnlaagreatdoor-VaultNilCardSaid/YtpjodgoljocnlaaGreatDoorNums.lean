/- vault.nums, vault.sectors, CopyBytes. -/
import Derived.Test.YtpjodgoljocnlaaGreatDoorNum
import Derived.Test.YtpjodgoljocnlaaGreatDoorSync
namespace Go.Proofs.YtpjodgoljocnlaaGreatDoor
open Go Go.RowKit
variable {B e' : Nat}
set_option maxRecDepth 100000 in
set_option maxHeartbeats 1000000 in
theorem f42_calls (w : World) (A : Option Addr) (c : Nat) (vs : List Value) (xs : List (List UInt8)) (hr : rowAt B 25 w A vs) (hE : Each (RecR B) w vs xs) (hx : ∀ x, x ∈ xs → x.length ≤ big) (ht : sumSecs xs ≤ big) (hk : xs.length ≤ big) (hkc : xs.length ≤ c) (hm : c ≤ maxLen) :
    Calls Tryz.prog 42 #[.slice A xs.length c] w fun e w' => e = .returned (.int .i64 (sumSecs xs)) ∧ w = w' := by
  have HR := Lib.hid hr
  have HE := Lib.hid hE
  have HX := Lib.hid hx
  rw [big_is] at hk ht
  unfold maxLen at hm
  clear hr hE hx
  go_enter Tryz.func42, Tryz.ntmps42
  go_wp2
  go_loopg [3, 8] xs.length (fun m sv iv wr => ∃ k : Nat, k ≤ xs.length ∧ m = xs.length - k ∧ iv = .int .i64 k ∧ sv = .int .i64 (sumSecs (xs.take k)) ∧ w = wr)
  case atStart => exact ⟨0, by omega, by omega, rfl, by simp [sumSecs], rfl⟩
  case round =>
    obtain ⟨k, hkx, hgk, rfl, rfl, rfl⟩ := hrel
    have HG := Lib.hid hgk
    clear hgk
    by_cases hlt : k < xs.length
    · obtain ⟨b, o, v, rfl, hcell, hv⟩ := rec_at HR.out HE.out hlt
      obtain ⟨A2, c2, rfl, q1, q2, q3, q4⟩ := hv.form
      have hst : sumSecs (xs.take (k + 1)) = sumSecs (xs.take k) + secs xs[k].length := by rw [take_snoc hlt, sumSecs_append, sumSecs_one]
      have hle := sumSecs_split xs (k + 1)
      have hle2 : sumSecs (xs.take k) + secs xs[k].length ≤ 1099511627776 := by omega
      have HST := Lib.hid hst
      have C := Lib.hid (f72_calls w xs[k].length (HX.out _ (List.getElem_mem hlt)))
      generalize hL : sumSecs (xs.take k) = L at *
      clear hst hle hL hv q4
      have hki : (k : Int) < xs.length := by omega
      go_wp2_with (go_at_call 72; refine C.out.mono ?_; rintro e w' ⟨rfl, rfl⟩; clear C)
      go_roundg (xs.length - (k + 1))
      case measure => rw [HG.out]; omega
      case rel => exact ⟨k + 1, by omega, rfl, by go_num, by rw [HST.out]; go_num, rfl⟩
    · have hke : k = xs.length := by omega
      subst hke
      rw [List.take_of_length_le (Nat.le_refl _)]
      go_wp2
      go_ret
      exact ⟨rfl, rfl⟩
def numsB (l : List Nat) : List UInt8 := l.flatMap numB
def u64V (l : List Nat) : List Value := l.map fun (n : Nat) => Value.int .u64 (n : Int)
theorem numsB_snoc {l : List Nat} {k : Nat} (h : k < l.length) : numsB (l.take (k + 1)) = numsB (l.take k) ++ numB l[k] := by
  unfold numsB
  rw [List.take_succ_eq_append_getElem h, List.flatMap_append]
  simp only [List.flatMap_cons, List.flatMap_nil, List.append_nil]
theorem numsB_len {l : List Nat} (h : ∀ x, x ∈ l → x < 18446744073709551616) : (numsB l).length ≤ 10 * l.length := by
  induction l with
  | nil => simp [numsB]
  | cons a l ih =>
    have h1 := ih fun x hx => h x (List.mem_cons_of_mem _ hx)
    have h2 := numB_ten (h a List.mem_cons_self)
    simp only [numsB, List.flatMap_cons, List.length_append, List.length_cons] at *
    omega
set_option maxRecDepth 100000 in
set_option maxHeartbeats 1000000 in
theorem f96_calls (w : World) (b o c : Nat) (l : List Nat) (hr : ∀ j x, (u64V l)[j]? = some x → w.cell? ⟨b, o + j, none⟩ = some x) (hl : ∀ x, x ∈ l → x < 18446744073709551616) (hk : l.length ≤ 100) (hkc : l.length ≤ c) (hm : c ≤ maxLen) :
    Calls Tryz.prog 96 #[.slice (some ⟨b, o, none⟩) l.length c] w fun e w' => ∃ r, e = .returned r ∧ w'.ownsRow w.heap.size 5 1 r (numsB l).length (bytesV (numsB l)) ∧ Ext w w' := by
  obtain ⟨i0, hi0, hz0, hs0, hb0⟩ := info_parts Tryz.info5
  have HR := Lib.hid hr
  have HL := Lib.hid hl
  unfold maxLen at hm
  clear hr hl
  go_enter Tryz.func96, Tryz.ntmps96
  go_wp2
  go_loopg [3, 8] l.length (fun m rv iv wr => ∃ k : Nat, k ≤ l.length ∧ m = l.length - k ∧ iv = .int .i64 k ∧ wr.ownsRow w.heap.size 5 1 rv (numsB (l.take k)).length (bytesV (numsB (l.take k))) ∧ Ext w wr)
  case atStart => exact ⟨0, by omega, by omega, rfl, World.ownsRow_nil _ _ _ _, Ext.rfl'⟩
  case round =>
    obtain ⟨k, hkx, hgk, rfl, hown, hext⟩ := hrel
    have HG := Lib.hid hgk
    obtain ⟨V, c3, rfl, -, -, -⟩ := own_form hown
    have HO := Lib.hid hown
    have HX := Lib.hid hext
    clear hgk hown hext
    by_cases hlt : k < l.length
    · have hcell : wr.cell? ⟨b, o + k, none⟩ = some (.int .u64 (l[k] : Int)) := HX.out.cell (HR.out k _ (by simp [u64V, hlt]))
      have hlk : l[k] < 18446744073709551616 := HL.out _ (List.getElem_mem hlt)
      have C := Lib.hid (f106_calls wr l[k] hlk)
      have hst := Lib.hid (numsB_snoc hlt)
      have hn1 := numB_ten hlk
      have hn2 : (numsB (l.take k)).length ≤ 10 * (l.take k).length := numsB_len fun x hx => HL.out x (List.mem_of_mem_take hx)
      have hn3 : (numsB (l.take k)).length ≤ 1000 := by rw [List.length_take] at hn2; omega
      have hki : (k : Int) < l.length := by omega
      generalize hP : numsB (l.take k) = P at *
      clear hn2 hP
      go_wp2_with (first | (go_at_call 106; refine C.out.mono ?_; rintro e w1 ⟨v1, rfl, hown1, hx1⟩; obtain ⟨V1, n1, rfl, -, -, -⟩ := own_form hown1; have HO1 := Lib.hid hown1; have HX1 := Lib.hid hx1; clear hown1 hx1 C) | (at_builtin; refine wpl_append (B := 0) (e' := 5) _ rfl (.tmp 12) (.tmp 14) 25 rfl w.heap.size 5 i0 _ 1 1 Tryz.underlying25 hi0 hz0 hs0 hb0 rfl (by omega) _ P.length (bytesV P) rfl ?o1 _ (numB l[k]).length n1 (bytesV (numB l[k])) rfl (by simp) ?o2 (bytesV_one _) ?o3 ?o4 ?o5 ?o6))
      case o1 => exact own_ext HO.out HX1.out
      case o2 => exact rowAt.of_own HO1.out
      case o3 => unfold maxLen; omega
      case o4 => omega
      case o5 => exact Nat.le_trans HX.out.size HX1.out.size
      case o6 =>
        intro v3 w3 hown3 hg3 hat3
        have hx3 : Ext w w3 := (HX.out.trans HX1.out).grown (own_ext HO.out HX1.out) hg3 (Nat.le_refl _)
        have HO3 := Lib.hid hown3
        have HX3 := Lib.hid hx3
        clear hown3 hg3 hat3 hx3
        go_wp2
        go_roundg (l.length - (k + 1))
        case measure => rw [HG.out]; omega
        case rel =>
          refine ⟨k + 1, by omega, rfl, by go_num, ?_, HX3.out⟩
          rw [hst.out, bytesV_append, List.length_append]
          exact HO3.out
    · have hke : k = l.length := by omega
      subst hke
      have e : numsB l = numsB (l.take l.length) := by rw [List.take_of_length_le (Nat.le_refl _)]
      have E := Lib.hid e
      clear e
      go_wp2
      go_ret
      refine ⟨_, rfl, ?_, HX.out⟩
      rw [E.out]
      exact HO.out
end Go.Proofs.YtpjodgoljocnlaaGreatDoor
