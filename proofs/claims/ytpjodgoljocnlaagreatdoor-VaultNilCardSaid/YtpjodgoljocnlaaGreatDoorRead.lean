/- Disk.Read. -/
import Derived.Test.YtpjodgoljocnlaaGreatDoorWrite
namespace Go.Proofs.YtpjodgoljocnlaaGreatDoor
open Go Go.RowKit
variable {B : Nat}
theorem flat_get {α : Type} {f : α → List Value} {n : Nat} : ∀ {l : List α} {k j : Nat} {v : Value} (_ : ∀ x, x ∈ l → (f x).length = n) (hk : k < l.length), (f l[k])[j]? = some v → (l.flatMap f)[k * n + j]? = some v
  | x :: l, 0, j, v, hf, _, h => by
    have h' : (f x)[j]? = some v := h
    have hj := (List.getElem?_eq_some_iff.1 h').1
    rw [List.flatMap_cons, Nat.zero_mul, Nat.zero_add, List.getElem?_append_left hj]
    exact h'
  | x :: l, k + 1, j, v, hf, hk, h => by
    have hx := hf x (by simp)
    rw [List.flatMap_cons, List.getElem?_append_right (by rw [hx, Nat.add_mul]; omega), hx, show (k + 1) * n + j - n = k * n + j by rw [Nat.add_mul]; omega]
    exact flat_get (fun y hy => hf y (by simp [hy])) (by simpa using hk) h
theorem bytesV_flatten (l : List (List UInt8)) : bytesV l.flatten = l.flatMap bytesV := by
  simp only [bytesV, List.map_flatten, List.flatMap]
  rfl
theorem kept_get {d : Dk} (h : d.Ok) {k j : Nat} {v : Value} (hk : k < d.kept.length) (hv : (bytesV d.kept[k])[j]? = some v) : (bytesV d.kept.flatten).toArray[k * 64 + j]? = some v := by
  rw [bytesV_flatten]
  simpa using flat_get (f := bytesV) (n := 64) (fun x hx => by rw [bytesV_length]; exact h.sec x hx) hk hv
theorem wrV_list (n : Int) (bs : List UInt8) : (wrV n bs).toList = .int .i64 n :: bytesV bs := by simp [wrV]
theorem wait_get {d : Dk} (h : d.Ok) {k j : Nat} {v : Value} (hk : k < d.wait.length) (hv : (Value.int .i64 (d.wait[k].1 : Int) :: bytesV d.wait[k].2)[j]? = some v) : (writeCells d.wait)[k * 65 + j]? = some v :=
  flat_get (f := fun x : Nat × List UInt8 => Value.int .i64 (x.1 : Int) :: bytesV x.2) (n := 65) (fun x hx => by rw [List.length_cons, bytesV_length, (h.wt x hx).2]) hk hv
theorem own_blk {w : World} {base e size n : Nat} {A : Option Addr} {c : Nat} {xs : List Value} (h : w.ownsRow base e size (.slice A n c) n xs) (hn : 0 < n) :
    ∃ g cur, A = some ⟨g, 0, none⟩ ∧ base ≤ g ∧ Blk w g e cur ∧ ∀ (j : Nat) v, xs[j]? = some v → cur[j]? = some v := by
  rcases h.2 with ⟨_, rfl⟩ | ⟨g, cap, cur, hv, hb, hg, _, _, _, htake⟩
  · omega
  · injection hv with h1
    refine ⟨g, cur, h1, hb, hg, fun j v hj => ?_⟩
    rw [← htake, List.getElem?_take] at hj
    split at hj
    · simpa using hj
    · cases hj
/-- what a sector shows -/
def readFrom (s : List UInt8) (i : Nat) : List (Nat × List UInt8) → List UInt8
  | [] => s
  | x :: l => readFrom (if x.1 = i then x.2 else s) i l
def readDk (d : Dk) (i : Nat) : List UInt8 := readFrom (d.kept.getD i []) i d.wait
theorem readFrom_append (s : List UInt8) (i : Nat) (a b : List (Nat × List UInt8)) : readFrom s i (a ++ b) = readFrom (readFrom s i a) i b := by
  induction a generalizing s with
  | nil => rfl
  | cons x a ih => exact ih _
theorem readFrom_len {i : Nat} : ∀ {l : List (Nat × List UInt8)} {s : List UInt8}, s.length = 64 → (∀ x, x ∈ l → x.2.length = 64) → (readFrom s i l).length = 64
  | [], s, h, _ => h
  | x :: l, s, h, hl => by
    refine readFrom_len (l := l) ?_ (fun y hy => hl y (by simp [hy]))
    split
    · exact hl x (by simp)
    · exact h
theorem i93 : (Tryz.prog.info? 93).map (·.size) = some 64 := by kernel_rfl
theorem i95 : (Tryz.prog.info? 95).map (·.size) = some 65 := by kernel_rfl
theorem wrV_get {n : Int} {bs : List UInt8} {j : Nat} {v : Value} (h : (bytesV bs)[j]? = some v) : (wrV n bs)[1 + j]? = some v := by
  simp [wrV, Nat.add_comm 1 j]; simpa using h
theorem wrV_zero (n : Int) (bs : List UInt8) : (wrV n bs)[0]? = some (.int .i64 n) := by simp [wrV]
theorem wrV_one (n : Int) (bs : List UInt8) : ∀ v ∈ (wrV n bs).toList, v.oneCell' = true := by
  intro v hv
  rw [wrV_list] at hv
  rcases List.mem_cons.1 hv with rfl | hv
  · rfl
  · exact bytesV_one _ v hv
theorem run_slice93 (b : Nat) (w : World) : (Instr.sliceAt 93 (.pointer (some ⟨b, 0, none⟩)) none none none).run Tryz.prog w = .ok (.slice (some ⟨b, 0, none⟩) 64 64) w := by
  kernel_rfl
theorem z95 : ∃ i z, Tryz.prog.info? 95 = some i ∧ i.zero = some z ∧ z.cells.size = 65 := by
  obtain ⟨i, z, h1, h2, _, _, h3⟩ := Tryz.info95
  exact ⟨i, z, h1, h2, h3⟩
theorem a93 : aggDesc (Tryz.prog.underlying 93) = true := by kernel_rfl
theorem a95 : aggDesc (Tryz.prog.underlying 95) = true := by kernel_rfl
theorem z93 : ∃ i z, Tryz.prog.info? 93 = some i ∧ i.zero = some z ∧ z.cells.size = 64 := by
  obtain ⟨i, hi, hz⟩ := Option.map_eq_some_iff.1 (show (Tryz.prog.info? 93).map (fun i => i.zero.map (·.cells.size)) = some (some 64) by kernel_rfl)
  obtain ⟨z, h1, h2⟩ := Option.map_eq_some_iff.1 hz
  exact ⟨i, z, hi, h1, h2⟩

set_option maxRecDepth 100000 in
set_option maxHeartbeats 4000000 in
theorem f48_up (w : World) (p i : Nat) (d : Dk) (h : DiskAt B w p d) (hi : i < d.kept.length) (hd : d.down = false) :
    Calls Tryz.prog 48 #[.pointer (some ⟨p, 0, none⟩), .int .i64 i] w fun e w' => ∃ b, e = .returned (.tuple #[.slice (some ⟨b, 0, none⟩) 64 64, .int .i64 0]) ∧ Blk w' b 93 (bytesV (readDk d i)).toArray ∧ Ext w w' := by
  obtain ⟨i0, z0, hi0, hz0, hz1⟩ := z93
  obtain ⟨kb, wv, b1, b2, b3, b4, b5, b6⟩ := h.form
  obtain ⟨V, vc, hV, hvc, hvm, -⟩ := own_form b5
  subst hV
  obtain ⟨r1, r2, r3⟩ := b1.rules
  have hd0 : upErr d = 0 := by simp [upErr, hd]
  have c1 := fun wx (hx : Ext w wx) => f75_calls wx p d (h.ext hx)
  rw [hd0] at c1
  have C1 := Lib.hid c1
  have hlen : decide (d.kept.length ≤ i) = false := decide_eq_false (by omega)
  have hneg : decide ((i : Int) < 0) = false := decide_eq_false (by omega)
  have hix : (i : Int) < d.kept.length := by omega
  have hsl : (d.kept[i]).length = 64 := b6.sec _ (List.getElem_mem hi)
  have hk64 : d.kept.length ≤ 65536 := b6.hi
  have HSL := Lib.hid hsl
  have H := Lib.hid h
  have B1 := Lib.hid b1
  have B4 := Lib.hid b4
  have B5 := Lib.hid b5
  have B6 := Lib.hid b6
  unfold maxLen at hvm
  clear c1 h b1 b4 b5 b6 hd hd0 hsl
  go_enter Tryz.func48, Tryz.ntmps48
  go_wp2_with (first | (go_at_call 75; refine (C1.out _ ?_).mono ?_; rotate_left; rintro e w' ⟨rfl, rfl⟩) | (go_at_call 76; refine (f76_errno _ _).mono ?_; rintro e w' ⟨rfl, rfl⟩) | (refine wpl_load_agg rfl 93 (.tmp 33) rfl (b := kb) (off := i * 64) (by rfl) 93 _ (bytesV d.kept[i]) B4.out (fun j v hj => kept_get B6.out hi hj) (by rw [bytesV_length]; exact HSL.out) a93 i93 ?_) | (refine wpl_alloc_ty rfl 93 rfl i0 z0 hi0 hz0 ?_) | (refine wpl_store_new rfl 93 (.tmp 7) (.tmp 34) rfl w (n := 64) 93 z0.cells rfl (by rfl) (bytesV d.kept[i]).toArray (by rfl) (by simp [HSL.out]) hz1 (by simpa using bytesV_one _) i93 ?_))
  rotate_left
  · exact Ext.rfl'
  obtain ⟨i5, z5, hi5, hz5, hs5⟩ := z95
  have hs0 : d.kept.getD i [] = d.kept[i] := by simp [List.getD, hi]
  have HS0 := Lib.hid hs0
  clear hs0
  go_loopg [40] d.wait.length (fun m iv wr => ∃ k : Nat, k ≤ d.wait.length ∧ m = d.wait.length - k ∧ iv = .int .i64 k ∧ Ext w wr ∧ Blk wr w.heap.size 93 (bytesV (readFrom d.kept[i] i (d.wait.take k))).toArray)
  case atStart => exact ⟨0, Nat.zero_le _, by omega, rfl, Ext.rfl'.alloc _, Blk.new w 93 _⟩
  case round =>
    obtain ⟨k, hk, hgk, rfl, hext, hb7⟩ := hrel
    have HG := Lib.hid hgk
    have HX := Lib.hid hext
    have HB7 := Lib.hid hb7
    have hsz := hb7.lt
    clear hgk
    by_cases hlt : k < d.wait.length
    · obtain ⟨g, cur, rfl, hgB, hgb, hgc⟩ := own_blk (own_ext B5.out hext) (by omega)
      have hxm := B6.out.wt _ (List.getElem_mem hlt)
      have hx64 : d.wait[k].2.length = 64 := hxm.2
      have hrl : (readFrom d.kept[i] i (d.wait.take k)).length = 64 := readFrom_len HSL.out (fun x hx => (B6.out.wt x (List.mem_of_mem_take hx)).2)
      have hst : readFrom d.kept[i] i (d.wait.take (k + 1)) = if d.wait[k].1 = i then d.wait[k].2 else readFrom d.kept[i] i (d.wait.take k) := by
        rw [List.take_succ_eq_append_getElem hlt, readFrom_append]; rfl
      have hw0 := wrV_zero (d.wait[k].1 : Int) d.wait[k].2
      have HX64 := Lib.hid hx64
      have HRL := Lib.hid hrl
      have HST := Lib.hid hst
      have HGB := Lib.hid hgb
      have HGC := Lib.hid hgc
      have hklt : (k : Int) < d.wait.length := by omega
      clear hext hb7 hgb hgc hx64 hrl hst hxm
      by_cases hat : d.wait[k].1 = i
      · have hq : ((d.wait[k].1 : Int) == (i : Int)) = true := by simp [hat]
        have HAT := Lib.hid hat
        clear hat
        go_wp2_with (first | (refine wpl_load_agg rfl 95 (.tmp 42) rfl (b := g) (off := k * 65) (by rfl) 95 cur (wrV (d.wait[k].1 : Int) d.wait[k].2).toList HGB.out (fun j v hj => HGC.out _ _ (wait_get B6.out hlt (by rw [wrV_list] at hj; exact hj))) (by rw [Array.length_toList, wrV_size HX64.out]) a95 i95 ?_) | (refine wpl_alloc_ty rfl 95 rfl i5 z5 hi5 hz5 ?_) | (refine wpl_store_new rfl 95 (.tmp 9) (.tmp 43) rfl wr (n := 65) 95 z5.cells rfl (by rfl) (wrV (d.wait[k].1 : Int) d.wait[k].2) (by rfl) (wrV_size HX64.out) hs5 (wrV_one _ _) i95 ?_) | (refine wpl_load_agg rfl 93 (.tmp 48) rfl (b := wr.heap.size) (off := 1) (by rfl) 95 _ (bytesV d.wait[k].2) (Blk.new wr 95 _) (fun j v hj => wrV_get hj) (by rw [bytesV_length]; exact HX64.out) a93 i93 ?_) | (refine wpl_store_whole rfl 93 (.tmp 7) (.tmp 49) rfl (b := w.heap.size) (by rfl) (bytesV d.wait[k].2).toArray (by rfl) 93 _ (HB7.out.alloc _) (by simp [HX64.out]) (by simp [HRL.out]) (by simpa using bytesV_one _) i93 ?_))
        go_roundg (d.wait.length - (k + 1))
        case measure => rw [HG.out]; omega
        case rel =>
          refine ⟨k + 1, by omega, rfl, by go_num, Ext.row (HX.out.alloc _) (Nat.le_refl _) _, ?_⟩
          rw [HST.out, if_pos HAT.out]
          exact (HB7.out.alloc _).row _
      · have hq : ((d.wait[k].1 : Int) == (i : Int)) = false := by
          rw [beq_eq_false_iff_ne]; omega
        have HAT := Lib.hid hat
        clear hat
        go_wp2_with (first | (refine wpl_load_agg rfl 95 (.tmp 42) rfl (b := g) (off := k * 65) (by rfl) 95 cur (wrV (d.wait[k].1 : Int) d.wait[k].2).toList HGB.out (fun j v hj => HGC.out _ _ (wait_get B6.out hlt (by rw [wrV_list] at hj; exact hj))) (by rw [Array.length_toList, wrV_size HX64.out]) a95 i95 ?_) | (refine wpl_alloc_ty rfl 95 rfl i5 z5 hi5 hz5 ?_) | (refine wpl_store_new rfl 95 (.tmp 9) (.tmp 43) rfl wr (n := 65) 95 z5.cells rfl (by rfl) (wrV (d.wait[k].1 : Int) d.wait[k].2) (by rfl) (wrV_size HX64.out) hs5 (wrV_one _ _) i95 ?_) | (refine wpl_load_agg rfl 93 (.tmp 48) rfl (b := wr.heap.size) (off := 1) (by rfl) 95 _ (bytesV d.wait[k].2) (Blk.new wr 95 _) (fun j v hj => wrV_get hj) (by rw [bytesV_length]; exact HX64.out) a93 i93 ?_) | (refine wpl_store_whole rfl 93 (.tmp 7) (.tmp 49) rfl (b := w.heap.size) (by rfl) (bytesV d.wait[k].2).toArray (by rfl) 93 _ (HB7.out.alloc _) (by simp [HX64.out]) (by simp [HRL.out]) (by simpa using bytesV_one _) i93 ?_))
        go_roundg (d.wait.length - (k + 1))
        case measure => rw [HG.out]; omega
        case rel =>
          refine ⟨k + 1, by omega, rfl, by go_num, HX.out.alloc _, ?_⟩
          rw [HST.out, if_neg HAT.out]
          exact HB7.out.alloc _
    · have hke : k = d.wait.length := by omega
      rw [hke, List.take_of_length_le (Nat.le_refl _)] at hb7
      have HB8 := Lib.hid hb7
      have hsl := fun W => run_slice93 w.heap.size W
      clear hext hb7 hke
      go_wp2
      go_ret2
      exact ⟨w.heap.size, rfl, by rw [readDk, HS0.out]; exact HB8.out, HX.out⟩
end Go.Proofs.YtpjodgoljocnlaaGreatDoor
