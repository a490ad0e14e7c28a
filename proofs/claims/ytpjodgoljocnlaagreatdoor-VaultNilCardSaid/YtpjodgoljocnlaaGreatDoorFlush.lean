/- Disk.Flush. -/
import Derived.Test.YtpjodgoljocnlaaGreatDoorRead
import Derived.StillTailTactics
namespace Go.Proofs.YtpjodgoljocnlaaGreatDoor
open Go Go.RowKit
variable {B : Nat}
def flushK : List (List UInt8) → List (Nat × List UInt8) → List (List UInt8)
  | k, [] => k
  | k, x :: l => flushK (k.set x.1 x.2) l
theorem flushK_append (k : List (List UInt8)) (a b : List (Nat × List UInt8)) : flushK k (a ++ b) = flushK (flushK k a) b := by
  induction a generalizing k with
  | nil => rfl
  | cons x a ih => exact ih _
theorem flushK_len : ∀ (l : List (Nat × List UInt8)) (k : List (List UInt8)), (flushK k l).length = k.length
  | [], _ => rfl
  | x :: l, k => by rw [flushK, flushK_len l]; simp
theorem flushK_sec : ∀ (l : List (Nat × List UInt8)) (k : List (List UInt8)), (∀ s, s ∈ k → s.length = 64) → (∀ x, x ∈ l → x.2.length = 64) → ∀ s, s ∈ flushK k l → s.length = 64
  | [], _, h, _ => h
  | x :: l, k, h, hl => flushK_sec l _ (fun s hs => by
      rcases List.mem_or_eq_of_mem_set hs with hs | rfl
      · exact h s hs
      · exact hl x (by simp)) (fun y hy => hl y (by simp [hy]))
/-- the disk behind a Flush, and what it answers -/
def flushDk (d : Dk) : Dk := if d.down then d else if hitB d then hitDk d else { hitDk d with kept := flushK d.kept d.wait, wait := [] }
def flushErr (d : Dk) : Int := if d.down then 3 else if hitB d then 3 else 0
/-- one sector of all is turned -/
theorem bytes_set {k : List (List UInt8)} {i : Nat} {s : List UInt8} (hk : ∀ x, x ∈ k → x.length = 64) (hs : s.length = 64) (hi : i < k.length) :
    (spl (bytesV k.flatten) (i * 64) (bytesV s)) = bytesV (k.set i s).flatten := by
  induction k generalizing i with
  | nil => simp at hi
  | cons x k ih =>
    have hx : (bytesV x).length = 64 := by rw [bytesV_length]; exact hk x (by simp)
    cases i with
    | zero => simp [spl, bytesV_append, hx, hs, List.drop_append]
    | succ i =>
      have := ih (fun y hy => hk y (by simp [hy])) (i := i) (by simpa using hi)
      simp only [List.set_cons_succ, List.flatten_cons, bytesV_append]
      rw [← this]
      simp only [spl, bytesV_length, hs]
      rw [show (i + 1) * 64 = 64 + i * 64 by omega, List.take_append, hx, List.drop_append, hx]
      rw [List.take_of_length_le (by rw [hx]; omega), List.drop_eq_nil_of_le (by rw [hx]; omega)]
      simp only [List.append_assoc, List.nil_append]
      rw [show 64 + i * 64 - 64 = i * 64 by omega, show 64 + i * 64 + 64 - 64 = i * 64 + 64 by omega]
theorem flat_size {l : List (List UInt8)} (h : ∀ s, s ∈ l → s.length = 64) : (l.flatMap bytesV).length = l.length * 64 := by
  induction l with
  | nil => rfl
  | cons x l ih =>
    rw [List.flatMap_cons, List.length_append, ih (fun s hs => h s (by simp [hs])), bytesV_length, h x (by simp), List.length_cons, Nat.add_mul]
    omega
theorem hitDk_kept (d : Dk) : (hitDk d).kept = d.kept := by unfold hitDk; split <;> rfl
theorem hitDk_wait (d : Dk) : (hitDk d).wait = d.wait := by unfold hitDk; split <;> rfl
attribute [local go_sem ↓] exec_ld93
set_option maxRecDepth 100000 in
set_option maxHeartbeats 4000000 in
theorem f80_up (w : World) (p : Nat) (d : Dk) (h : DiskAt B w p d) (hd : d.down = false) (hh : hitB d = false) :
    Calls Tryz.prog 80 #[.pointer (some ⟨p, 0, none⟩)] w fun e w' => e = .returned (.int .i64 0) ∧ DiskAt B w' p (flushDk d) ∧ Mut B [91, 93] w w' := by
  have hd0 : upErr d = 0 := by simp [upErr, hd]
  have c1 := f75_calls w p d h
  rw [hd0] at c1
  have c2 := f101_calls w p d h
  rw [hh] at c2
  have C1 := Lib.hid c1
  have C2 := Lib.hid c2
  clear c1 c2 hd0
  have HH := Lib.hid hh
  have HD := Lib.hid hd
  have H := Lib.hid h
  clear hh hd h
  go_enter Tryz.func80, Tryz.ntmps80
  go_wp2_with (first | (go_at_call 75; refine C1.out.mono ?_; rintro e w' ⟨rfl, rfl⟩) | (go_at_call 76; refine (f76_errno _ _).mono ?_; rintro e w' ⟨rfl, rfl⟩) | (go_at_call 101; refine C2.out.mono ?_; rintro e w1 ⟨rfl, hd1, hm1⟩; have HD1 := Lib.hid hd1; have HM1 := Lib.hid hm1; obtain ⟨kb, wv, b1, b2, b3, b4, b5, b6⟩ := hd1.form; obtain ⟨V, vc, hV, hvc, hvm, -⟩ := own_form b5; subst hV; obtain ⟨r1, r2, r3⟩ := b1.rules; have B1 := Lib.hid b1; have B4 := Lib.hid b4; have B5 := Lib.hid b5; have B6 := Lib.hid b6; clear hd1 hm1 b1 b4 b5 b6))
  have hk := hitDk_kept d
  have hw := hitDk_wait d
  have hfl : flushDk d = { hitDk d with kept := flushK (hitDk d).kept (hitDk d).wait, wait := [] } := by
    unfold flushDk; rw [HD.out, HH.out, hk, hw]; rfl
  have HFL := Lib.hid hfl
  clear hk hw hfl
  generalize hitDk d = D at *
  obtain ⟨i5, z5, hi5, hz5, hs5⟩ := z95
  unfold maxLen at hvm
  go_loopg [20] D.wait.length (fun m iv wr => ∃ k : Nat, k ≤ D.wait.length ∧ m = D.wait.length - k ∧ iv = .int .i64 k ∧ Mut B [93] w1 wr ∧ Blk wr kb 93 (bytesV (flushK D.kept (D.wait.take k)).flatten).toArray)
  case atStart => exact ⟨0, Nat.zero_le _, by omega, rfl, Mut.rfl', B4.out⟩
  case round =>
    obtain ⟨k, hk, hgk, rfl, hmut, hbk⟩ := hrel
    have HG := Lib.hid hgk
    have HM := Lib.hid hmut
    have HBK := Lib.hid hbk
    have hpb := B1.out.mut hmut (by simp)
    obtain ⟨q1, q2, q3⟩ := hpb.rules
    have HPB := Lib.hid hpb
    clear hgk r1 r2 r3 hpb
    by_cases hlt : k < D.wait.length
    · obtain ⟨g, cur, rfl, hgB, hgb, hgc⟩ := own_blk (own_mut B5.out hmut (by simp)) (by omega)
      have hxm := B6.out.wt _ (List.getElem_mem hlt)
      have hx64 : D.wait[k].2.length = 64 := hxm.2
      have hxi : D.wait[k].1 < D.kept.length := hxm.1
      have hfk : (flushK D.kept (D.wait.take k)).length = D.kept.length := flushK_len _ _
      have hfs : ∀ s, s ∈ flushK D.kept (D.wait.take k) → s.length = 64 := flushK_sec _ _ B6.out.sec (fun x hx => (B6.out.wt x (List.mem_of_mem_take hx)).2)
      have hst : flushK D.kept (D.wait.take (k + 1)) = (flushK D.kept (D.wait.take k)).set D.wait[k].1 D.wait[k].2 := by
        rw [List.take_succ_eq_append_getElem hlt, flushK_append]; rfl
      have hw0 := wrV_zero (D.wait[k].1 : Int) D.wait[k].2
      have hld := run_ld93 (w := wr.alloc (.cells (wrV (D.wait[k].1 : Int) D.wait[k].2) 95)) (b := wr.heap.size) (o := 1) (cs := bytesV D.wait[k].2) (fun j v hj => by
        rw [(Blk.new wr 95 _).rules.1]; exact wrV_get hj) (by rw [bytesV_length]; exact hx64)
      have hld2 := run_ld93 (w := (wr.alloc (.cells (wrV (D.wait[k].1 : Int) D.wait[k].2) 95)).drew) (b := wr.heap.size) (o := 1) (cs := bytesV D.wait[k].2) (fun j v hj => by
        rw [(Blk.new wr 95 _).drew.rules.1]; exact wrV_get hj) (by rw [bytesV_length]; exact hx64)
      have hxint : (D.wait[k].1 : Int) < D.kept.length := by omega
      have hklt : (k : Int) < D.wait.length := by omega
      have HX64 := Lib.hid hx64
      have HST := Lib.hid hst
      have HGB := Lib.hid hgb
      have HGC := Lib.hid hgc
      have HFK := Lib.hid hfk
      have HFS := Lib.hid hfs
      have hkl := B6.out.hi
      clear hmut hbk hgb hgc hx64 hst hxm hfk hfs
      go_wp2_with (first | (refine wpl_load_agg rfl 95 (.tmp 22) rfl (b := g) (off := k * 65) (by rfl) 95 cur (wrV (D.wait[k].1 : Int) D.wait[k].2).toList HGB.out (fun j v hj => HGC.out _ _ (wait_get B6.out hlt (by rw [wrV_list] at hj; exact hj))) (by rw [Array.length_toList, wrV_size HX64.out]) a95 i95 ?_) | (refine wpl_alloc_ty rfl 95 rfl i5 z5 hi5 hz5 ?_) | (refine wpl_store_new rfl 95 (.tmp 5) (.tmp 23) rfl wr (n := 65) 95 z5.cells rfl (by rfl) (wrV (D.wait[k].1 : Int) D.wait[k].2) (by rfl) (wrV_size HX64.out) hs5 (wrV_one _ _) i95 ?_))
      refine wp_region_tail 9 (by kernel_rfl) (by kernel_rfl) ?_
      simp only [List.take_succ_cons, List.take_zero, List.drop_succ_cons, List.drop_zero]
      repeat still_step
      refine wpStill_nil ?_
      go_wp2_with (refine wpl_store_agg rfl 93 (.tmp 32) (.tmp 31) rfl (b := kb) (off := D.wait[k].1 * 64) (by rfl) (bytesV D.wait[k].2) (by rfl) 93 _ ((HBK.out.alloc _).drew) (by rw [bytesV_length]; exact HX64.out) (by rw [bytesV_flatten]; simp [flat_size HFS.out, HFK.out]; omega) (bytesV_one _) i93 ?_)
      go_roundg (D.wait.length - (k + 1))
      case measure => rw [HG.out]; omega
      case rel =>
        refine ⟨k + 1, by omega, rfl, by go_num, ((HM.out.alloc _).drew).row B4.out (by simp) b3 _, ?_⟩
        have := ((HBK.out.alloc (.cells (wrV (D.wait[k].1 : Int) D.wait[k].2) 95)).drew).row (spl (bytesV (flushK D.kept (D.wait.take k)).flatten).toArray.toList (D.wait[k].1 * 64) (bytesV D.wait[k].2)).toArray
        rw [HST.out, ← bytes_set HFS.out HX64.out (by rw [HFK.out]; exact hxi)]
        simpa using this
    · have hke : k = D.wait.length := by omega
      rw [hke, List.take_of_length_le (Nat.le_refl _)] at hbk
      have HB8 := Lib.hid hbk
      clear hmut hbk hke
      go_wp2
      go_ret
      have m9 : Mut B [91, 93] w1 _ := (HM.out.mono (T' := [91, 93]) (by simp)).trans ((Mut.rfl' (w := wr)).put HPB.out (by simp) b2 1 none (.slice none 0 0))
      refine ⟨rfl, ?_, (HM1.out.mono (by simp)).trans m9⟩
      rw [HFL.out]
      refine ⟨kb, .slice none 0 0, ?_, b2, b3, ?_, World.ownsRow_nil _ _ _ _, ⟨?_, ?_, ?_, ?_, ?_⟩⟩
      · simpa [flushK_len] using HPB.out.set_ 1 (.slice none 0 0)
      · simp only
        exact HB8.out.mut (T := [91]) ((Mut.rfl' (w := wr)).put HPB.out (by simp) b2 1 none (.slice none 0 0)) (by simp)
      · simpa [flushK_len] using B6.out.lo
      · simpa [flushK_len] using B6.out.hi
      · exact flushK_sec _ _ B6.out.sec (fun x hx => (B6.out.wt x hx).2)
      · intro x hx; simp at hx
      · exact B6.out.arm
end Go.Proofs.YtpjodgoljocnlaaGreatDoor
