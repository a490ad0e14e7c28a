/- slices.Clone at four types: what comes back is a row of the call's own with the same cells. No condition but a bound on the size. -/
import Derived.Test.YtpjodgoljocnlaaGreatDoorBase
namespace Go.Proofs.YtpjodgoljocnlaaGreatDoor
open Go Go.RowKit
variable {B e' : Nat}
theorem Tryz.info5 : (Tryz.prog.info? 5).map (fun i => (i.zero, i.size, i.bytes)) = some (some (.int .u8 0), 1, 1) := by kernel_rfl
theorem bs25 (w : World) : (Instr.buildSlice 25 0 #[]).run Tryz.prog w = .ok (.slice (some ⟨w.heap.size, 0, none⟩) 0 0) (w.alloc (.cells #[] 5)) := by kernel_rfl
set_option maxHeartbeats 400000 in
theorem f74_row (w : World) (A : Option Addr) (n c : Nat) (cs : List Value) (hl : cs.length = n * 1) (hr : rowAt B e' w A cs) (h1 : ∀ u ∈ cs, u.oneCell' = true) (hn : n ≤ big) (hA : A = none → n = 0 ∧ c = 0) :
    Calls Tryz.prog 74 #[.slice A n c] w fun e w' => ∃ v', e = .returned v' ∧ w'.ownsRow w.heap.size 5 1 v' n cs ∧ Ext w w' := by
  obtain ⟨i0, hi0, hz0, hz1, hz2⟩ := info_parts Tryz.info5
  have he := fun w => Lib.run_eql_slice_nil (P := Tryz.prog) w 25 5 A n c 0 0 Tryz.underlying25
  cases A with
  | none =>
    obtain ⟨rfl, rfl⟩ := hA rfl
    obtain rfl : cs = [] := List.eq_nil_of_length_eq_zero (by simpa using hl)
    go_enter Tryz.func74, Tryz.ntmps74
    go_wp2
    go_ret
    exact ⟨_, rfl, World.ownsRow_nil _ _ _ _, Ext.rfl'⟩
  | some ad =>
    clear hA
    have HL := Lib.hid hl
    clear hl
    have hb := bs25
    go_enter Tryz.func74, Tryz.ntmps74
    go_wp2_with (at_builtin; refine wpl_append _ rfl _ _ 25 rfl w.heap.size 5 i0 _ 1 1 Tryz.underlying25 hi0 hz0 hz1 hz2 rfl (by omega) _ 0 [] rfl (World.ownsRow_made w #[] 0 (Nat.le_refl _) (Nat.zero_le _) rfl) (some ad) n c cs rfl HL.out (hr.ext (Ext.alloc Ext.rfl' _)) h1 ?_ ?_ (by simp) ?_)
    · simpa using big_max hn
    · rw [big_is] at hn; omega
    intro v1 w1 hown hg ha
    have HG := Lib.hid hg
    clear hg
    go_wp2
    go_ret
    refine ⟨_, rfl, by simpa using hown, Ext.grown (size := 1) (Ext.alloc Ext.rfl' _) (World.ownsRow_made w #[] 0 (Nat.le_refl _) (Nat.zero_le _) rfl) HG.out (Nat.le_refl _)⟩
theorem Tryz.info25 : (Tryz.prog.info? 25).map (fun i => (i.zero, i.size, i.bytes)) = some (some (.slice none 0 0), 1, 24) := by kernel_rfl
theorem bs44 (w : World) : (Instr.buildSlice 44 0 #[]).run Tryz.prog w = .ok (.slice (some ⟨w.heap.size, 0, none⟩) 0 0) (w.alloc (.cells #[] 25)) := by kernel_rfl
set_option maxHeartbeats 400000 in
theorem f59_row (w : World) (A : Option Addr) (n c : Nat) (cs : List Value) (hl : cs.length = n * 1) (hr : rowAt B e' w A cs) (h1 : ∀ u ∈ cs, u.oneCell' = true) (hn : n ≤ big) (hA : A = none → n = 0 ∧ c = 0) :
    Calls Tryz.prog 59 #[.slice A n c] w fun e w' => ∃ v', e = .returned v' ∧ w'.ownsRow w.heap.size 25 1 v' n cs ∧ Ext w w' := by
  obtain ⟨i0, hi0, hz0, hz1, hz2⟩ := info_parts Tryz.info25
  have he := fun w => Lib.run_eql_slice_nil (P := Tryz.prog) w 44 25 A n c 0 0 Tryz.underlying44
  cases A with
  | none =>
    obtain ⟨rfl, rfl⟩ := hA rfl
    obtain rfl : cs = [] := List.eq_nil_of_length_eq_zero (by simpa using hl)
    go_enter Tryz.func59, Tryz.ntmps59
    go_wp2
    go_ret
    exact ⟨_, rfl, World.ownsRow_nil _ _ _ _, Ext.rfl'⟩
  | some ad =>
    clear hA
    have HL := Lib.hid hl
    clear hl
    have hb := bs44
    go_enter Tryz.func59, Tryz.ntmps59
    go_wp2_with (at_builtin; refine wpl_append _ rfl _ _ 44 rfl w.heap.size 25 i0 _ 1 24 Tryz.underlying44 hi0 hz0 hz1 hz2 rfl (by omega) _ 0 [] rfl (World.ownsRow_made w #[] 0 (Nat.le_refl _) (Nat.zero_le _) rfl) (some ad) n c cs rfl HL.out (hr.ext (Ext.alloc Ext.rfl' _)) h1 ?_ ?_ (by simp) ?_)
    · simpa using big_max hn
    · rw [big_is] at hn; omega
    intro v1 w1 hown hg ha
    have HG := Lib.hid hg
    clear hg
    go_wp2
    go_ret
    refine ⟨_, rfl, by simpa using hown, Ext.grown (size := 1) (Ext.alloc Ext.rfl' _) (World.ownsRow_made w #[] 0 (Nat.le_refl _) (Nat.zero_le _) rfl) HG.out (Nat.le_refl _)⟩
theorem Tryz.info3 : (Tryz.prog.info? 3).map (fun i => (i.zero, i.size, i.bytes)) = some (some (.int .i64 0), 1, 8) := by kernel_rfl
theorem bs53 (w : World) : (Instr.buildSlice 53 0 #[]).run Tryz.prog w = .ok (.slice (some ⟨w.heap.size, 0, none⟩) 0 0) (w.alloc (.cells #[] 3)) := by kernel_rfl
set_option maxHeartbeats 400000 in
theorem f60_row (w : World) (A : Option Addr) (n c : Nat) (cs : List Value) (hl : cs.length = n * 1) (hr : rowAt B e' w A cs) (h1 : ∀ u ∈ cs, u.oneCell' = true) (hn : n ≤ big) (hA : A = none → n = 0 ∧ c = 0) :
    Calls Tryz.prog 60 #[.slice A n c] w fun e w' => ∃ v', e = .returned v' ∧ w'.ownsRow w.heap.size 3 1 v' n cs ∧ Ext w w' := by
  obtain ⟨i0, hi0, hz0, hz1, hz2⟩ := info_parts Tryz.info3
  have he := fun w => Lib.run_eql_slice_nil (P := Tryz.prog) w 53 3 A n c 0 0 Tryz.underlying53
  cases A with
  | none =>
    obtain ⟨rfl, rfl⟩ := hA rfl
    obtain rfl : cs = [] := List.eq_nil_of_length_eq_zero (by simpa using hl)
    go_enter Tryz.func60, Tryz.ntmps60
    go_wp2
    go_ret
    exact ⟨_, rfl, World.ownsRow_nil _ _ _ _, Ext.rfl'⟩
  | some ad =>
    clear hA
    have HL := Lib.hid hl
    clear hl
    have hb := bs53
    go_enter Tryz.func60, Tryz.ntmps60
    go_wp2_with (at_builtin; refine wpl_append _ rfl _ _ 53 rfl w.heap.size 3 i0 _ 1 8 Tryz.underlying53 hi0 hz0 hz1 hz2 rfl (by omega) _ 0 [] rfl (World.ownsRow_made w #[] 0 (Nat.le_refl _) (Nat.zero_le _) rfl) (some ad) n c cs rfl HL.out (hr.ext (Ext.alloc Ext.rfl' _)) h1 ?_ ?_ (by simp) ?_)
    · simpa using big_max hn
    · rw [big_is] at hn; omega
    intro v1 w1 hown hg ha
    have HG := Lib.hid hg
    clear hg
    go_wp2
    go_ret
    refine ⟨_, rfl, by simpa using hown, Ext.grown (size := 1) (Ext.alloc Ext.rfl' _) (World.ownsRow_made w #[] 0 (Nat.le_refl _) (Nat.zero_le _) rfl) HG.out (Nat.le_refl _)⟩
theorem Tryz.info50 : (Tryz.prog.info? 50).map (fun i => (i.zero, i.size, i.bytes)) = some (some (.agg #[.int .u64 0, .int .u64 0, .slice none 0 0]), 3, 40) := by kernel_rfl
theorem bs28 (w : World) : (Instr.buildSlice 28 0 #[]).run Tryz.prog w = .ok (.slice (some ⟨w.heap.size, 0, none⟩) 0 0) (w.alloc (.cells #[] 50)) := by kernel_rfl
set_option maxHeartbeats 400000 in
theorem f90_row (w : World) (A : Option Addr) (n c : Nat) (cs : List Value) (hl : cs.length = n * 3) (hr : rowAt B e' w A cs) (h1 : ∀ u ∈ cs, u.oneCell' = true) (hn : n ≤ big) (hA : A = none → n = 0 ∧ c = 0) :
    Calls Tryz.prog 90 #[.slice A n c] w fun e w' => ∃ v', e = .returned v' ∧ w'.ownsRow w.heap.size 50 3 v' n cs ∧ Ext w w' := by
  obtain ⟨i0, hi0, hz0, hz1, hz2⟩ := info_parts Tryz.info50
  have he := fun w => Lib.run_eql_slice_nil (P := Tryz.prog) w 28 50 A n c 0 0 Tryz.underlying28
  cases A with
  | none =>
    obtain ⟨rfl, rfl⟩ := hA rfl
    obtain rfl : cs = [] := List.eq_nil_of_length_eq_zero (by simpa using hl)
    go_enter Tryz.func90, Tryz.ntmps90
    go_wp2
    go_ret
    exact ⟨_, rfl, World.ownsRow_nil _ _ _ _, Ext.rfl'⟩
  | some ad =>
    clear hA
    have HL := Lib.hid hl
    clear hl
    have hb := bs28
    go_enter Tryz.func90, Tryz.ntmps90
    go_wp2_with (at_builtin; refine wpl_append _ rfl _ _ 28 rfl w.heap.size 50 i0 _ 3 40 Tryz.underlying28 hi0 hz0 hz1 hz2 rfl (by omega) _ 0 [] rfl (World.ownsRow_made w #[] 0 (Nat.le_refl _) (Nat.zero_le _) rfl) (some ad) n c cs rfl HL.out (hr.ext (Ext.alloc Ext.rfl' _)) h1 ?_ ?_ (by simp) ?_)
    · simpa using big_max hn
    · rw [big_is] at hn; omega
    intro v1 w1 hown hg ha
    have HG := Lib.hid hg
    clear hg
    go_wp2
    go_ret
    refine ⟨_, rfl, by simpa using hown, Ext.grown (size := 3) (Ext.alloc Ext.rfl' _) (World.ownsRow_made w #[] 0 (Nat.le_refl _) (Nat.zero_le _) rfl) HG.out (Nat.le_refl _)⟩

end Go.Proofs.YtpjodgoljocnlaaGreatDoor
