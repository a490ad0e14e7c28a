/- Lists of entries held against each other: armoirehelp.Same, slices.EqualFunc. -/
import Derived.Test.YtpjodgoljocnlaaGreatDoorEq
import Derived.StillTailTactics
namespace Go.Proofs.YtpjodgoljocnlaaGreatDoor
open Go Go.RowKit
variable {B : Nat}
theorem entsB_step {xs ys : List Ent} {k : Nat} (h1 : k < xs.length) (h2 : k < ys.length) : entsB (xs.drop k) (ys.drop k) = (entB xs[k] ys[k] && entsB (xs.drop (k+1)) (ys.drop (k+1))) := by
  rw [List.drop_eq_getElem_cons h1, List.drop_eq_getElem_cons h2]; rfl
theorem entsB_len {xs ys : List Ent} (h : xs.length ≠ ys.length) : entsB xs ys = false := by
  cases hb : entsB xs ys with
  | false => rfl
  | true => exact absurd (by rw [entsB_iff.1 hb]) h
theorem entsB_end {xs ys : List Ent} {k : Nat} (h1 : xs.length ≤ k) (h2 : ys.length ≤ k) : entsB (xs.drop k) (ys.drop k) = true := by
  rw [List.drop_eq_nil_of_le h1, List.drop_eq_nil_of_le h2]; rfl

set_option maxRecDepth 100000 in
set_option maxHeartbeats 1000000 in
theorem f29_calls (w : World) (u v : Value) (xs ys : List Ent) (hx : IsEnts B w u xs) (hy : IsEnts B w v ys) :
    Calls Tryz.prog 29 #[u, v, .func (.func 30) #[] #[]] w fun e w' => e = .returned (.bool (entsB xs ys)) ∧ Ext w w' := by
  obtain ⟨A, c, cs, rfl, h1, h2, h3, h4, h5⟩ := hx.form
  obtain ⟨B, d, ds, rfl, k1, k2, k3, k4, k5⟩ := hy.form
  unfold maxLen at h2 k2
  by_cases hl : xs.length = ys.length
  · have HL := Lib.hid hl
    have hlt : ((xs.length : Int) != ys.length) = false := by simp [hl]
    have hle : xs.length ≤ ys.length := by omega
    clear hl hx hy h3 k3
    go_enter Tryz.func29, Tryz.ntmps29
    go_wp2
    go_loopg [7] xs.length (fun m iv wr => ∃ k : Nat, k ≤ xs.length ∧ m = xs.length - k ∧ iv = .int .i64 k ∧ Ext w wr ∧ Hid (entsB (xs.drop k) (ys.drop k) = entsB xs ys))
    case atStart => exact ⟨0, Nat.zero_le _, by omega, rfl, Ext.rfl', Lib.hid (by simp)⟩
    case round =>
      obtain ⟨k, hk, hgk, rfl, hext, hrec⟩ := hrel
      have HG := Lib.hid hgk
      clear hgk
      by_cases hlt : k < xs.length
      · obtain ⟨b, o, e, rfl, hbs, e0, e1, e2, eb, et, ei⟩ := ent_at (h4.ext hext) (h5.ext fun _ _ h => h.ext hext) hlt
        obtain ⟨b', o', e', rfl, hbs', e0', e1', e2', eb', et', ei'⟩ := ent_at (k4.ext hext) (k5.ext fun _ _ h => h.ext hext) (k := k) (by omega)
        have HB := Lib.hid hext
        clear h4 h5 k4 k5 hext
        have hky : k < ys.length := by omega
        have HS := Lib.hid (entsB_step hlt hky)
        have hix : (k : Int) < xs.length := by omega
        have hiy : (k : Int) < ys.length := by omega
        have hcall := fun wx => f30_calls (B := B) wx [.int .u64 xs[k].term, .int .u64 xs[k].index, e] [.int .u64 ys[k].term, .int .u64 ys[k].index, e'] xs[k] ys[k]
        have HC := Lib.hid hcall
        clear hcall
        go_wp2
        go_still_tail 9, (by kernel_rfl)
        go_wp2_with (go_at_call 30; refine (HC.out _ ?_ ?_).mono ?_; rotate_left; rotate_left; rintro ee w1 ⟨rfl, hw1⟩)
        · go_ret
          rename_i hb
          refine ⟨ret_bool ?_, HB.out.drew.trans hw1⟩
          rw [← hrec.out, HS.out]
          simp at hb
          simp [hb]
        · go_roundg (xs.length - (k + 1))
          case measure => rw [HG.out]; omega
          case rel =>
            refine ⟨k + 1, by omega, rfl, by go_num, HB.out.drew.trans hw1, Lib.hid ?_⟩
            rename_i hb
            rw [← hrec.out, HS.out]
            simp at hb
            simp [hb]
        · exact ⟨e, rfl, eb.ext Ext.rfl'.drew, et, ei⟩
        · exact ⟨e', rfl, eb'.ext Ext.rfl'.drew, et', ei'⟩
      · have HB := Lib.hid hext
        clear h4 h5 k4 k5 hext
        go_wp2
        go_ret
        refine ⟨ret_bool ?_, HB.out⟩
        rw [← hrec.out, entsB_end (by omega) (by have := HL.out; omega)]
  · have HL := Lib.hid hl
    have hlt : ((xs.length : Int) != ys.length) = true := by simp; omega
    clear hl hx hy h3 k3 h4 h5 k4 k5
    go_enter Tryz.func29, Tryz.ntmps29
    go_wp2
    go_ret
    exact ⟨ret_bool (entsB_len HL.out).symm, Ext.rfl'⟩
set_option maxRecDepth 100000 in
set_option maxHeartbeats 1000000 in
theorem f68_calls (w : World) (u v : Value) (xs ys : List Ent) (hx : IsEnts B w u xs) (hy : IsEnts B w v ys) :
    Calls Tryz.prog 68 #[u, v, .func (.func 69) #[] #[]] w fun e w' => e = .returned (.bool (entsB xs ys)) ∧ Ext w w' := by
  obtain ⟨A, c, cs, rfl, h1, h2, h3, h4, h5⟩ := hx.form
  obtain ⟨B, d, ds, rfl, k1, k2, k3, k4, k5⟩ := hy.form
  unfold maxLen at h2 k2
  by_cases hl : xs.length = ys.length
  · have HL := Lib.hid hl
    have hlt : ((xs.length : Int) != ys.length) = false := by simp [hl]
    have hle : xs.length ≤ ys.length := by omega
    clear hl hx hy h3 k3
    go_enter Tryz.func68, Tryz.ntmps68
    go_wp2
    go_loopg [17] xs.length (fun m iv wr => ∃ k : Nat, k ≤ xs.length ∧ m = xs.length - k ∧ iv = .int .i64 k ∧ Ext w wr ∧ Hid (entsB (xs.drop k) (ys.drop k) = entsB xs ys))
    case atStart => exact ⟨0, Nat.zero_le _, by omega, rfl, Ext.rfl', Lib.hid (by simp)⟩
    case round =>
      obtain ⟨k, hk, hgk, rfl, hext, hrec⟩ := hrel
      have HG := Lib.hid hgk
      clear hgk
      by_cases hlt : k < xs.length
      · obtain ⟨b, o, e, rfl, hbs, e0, e1, e2, eb, et, ei⟩ := ent_at (h4.ext hext) (h5.ext fun _ _ h => h.ext hext) hlt
        obtain ⟨b', o', e', rfl, hbs', e0', e1', e2', eb', et', ei'⟩ := ent_at (k4.ext hext) (k5.ext fun _ _ h => h.ext hext) (k := k) (by omega)
        obtain ⟨D, D', rfl, _⟩ := eb.form
        obtain ⟨F, F', rfl, _⟩ := eb'.form
        have HB := Lib.hid hext
        clear h4 h5 k4 k5 hext
        have hky : k < ys.length := by omega
        have HS := Lib.hid (entsB_step hlt hky)
        have hix : (k : Int) < xs.length := by omega
        have hiy : (k : Int) < ys.length := by omega
        have hcall := fun wx => f69_calls (B := B) wx [.int .u64 xs[k].term, .int .u64 xs[k].index, .slice D xs[k].data.length D'] [.int .u64 ys[k].term, .int .u64 ys[k].index, .slice F ys[k].data.length F'] xs[k] ys[k]
        have HC := Lib.hid hcall
        clear hcall
        have hsz := HB.out.size
        go_wp2_with (go_at_call 69; refine (HC.out _ ?_ ?_).mono ?_; rotate_left; rotate_left; rintro ee w1 ⟨rfl, hw1⟩)
        · go_ret
          rename_i hb
          refine ⟨ret_bool ?_, ((HB.out.alloc _).alloc _).trans hw1⟩
          rw [← hrec.out, HS.out]
          simp at hb
          simp [hb]
        · go_roundg (xs.length - (k + 1))
          case measure => rw [HG.out]; omega
          case rel =>
            refine ⟨k + 1, by omega, rfl, by go_num, ((HB.out.alloc _).alloc _).trans hw1, Lib.hid ?_⟩
            rename_i hb
            rw [← hrec.out, HS.out]
            simp at hb
            simp [hb]
        · exact ⟨_, rfl, eb.ext (Ext.rfl'.alloc _ |>.alloc _), et, ei⟩
        · exact ⟨_, rfl, eb'.ext (Ext.rfl'.alloc _ |>.alloc _), et', ei'⟩

      · have HB := Lib.hid hext
        clear h4 h5 k4 k5 hext
        go_wp2
        go_ret
        refine ⟨ret_bool ?_, HB.out⟩
        rw [← hrec.out, entsB_end (by omega) (by have := HL.out; omega)]
  · have HL := Lib.hid hl
    have hlt : ((xs.length : Int) != ys.length) = true := by simp; omega
    clear hl hx hy h3 k3 h4 h5 k4 k5
    go_enter Tryz.func68, Tryz.ntmps68
    go_wp2
    go_ret
    exact ⟨ret_bool (entsB_len HL.out).symm, Ext.rfl'⟩
end Go.Proofs.YtpjodgoljocnlaaGreatDoor
