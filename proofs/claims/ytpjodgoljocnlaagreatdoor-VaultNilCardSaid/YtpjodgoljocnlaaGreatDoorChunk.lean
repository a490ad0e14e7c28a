/- slices.Chunk of bytes: the function, and its iterator's contract. -/
import Derived.RangeFuncNested
import Derived.RangeFuncBound
import Derived.RangeFuncCalls
import Derived.RangeFuncLeaves
import Derived.Shelf.Abstract
import Derived.Shelf.RegionOpen
import Derived.WalkKit
import Derived.OwnWalkIn
import Derived.TacticsInMore
import Derived.LoopNIn
import Derived.LoopIn
import Derived.Test.YtpjodgoljocnlaaGreatDoorWal
namespace Go.Proofs.YtpjodgoljocnlaaGreatDoor
open Go Go.RowKit Go.Shelf
attribute [local go_sem] Oper.semAt_some
variable {B e' : Nat}
/-- the k-th part -/
def chV (bo len k : Nat) : Value := .slice (some ⟨bo, 48 * k, none⟩) (min 48 (len - 48 * k)) (min 48 (len - 48 * k))
def chN (len : Nat) : Nat := (len + 47) / 48
/-- what the iterator wants kept: its two variables -/
structure KeepB (b1 b2 : Nat) (W W' : World) : Prop where
  one : W'.heap[b1]? = W.heap[b1]?
  two : W'.heap[b2]? = W.heap[b2]?
theorem KeepB.rfl' {b1 b2 : Nat} {W : World} : KeepB b1 b2 W W := ⟨rfl, rfl⟩
theorem KeepB.trans {b1 b2 : Nat} {A C D : World} (h : KeepB b1 b2 A C) (k : KeepB b1 b2 C D) : KeepB b1 b2 A D := ⟨k.one.trans h.one, k.two.trans h.two⟩
theorem f100_calls (w : World) (A : Option Addr) (n c : Nat) :
    Calls Tryz.prog 100 #[.slice A n c, .int .i64 48] w fun e w' => e = .returned (.func (.func 108) #[] #[.pointer (some ⟨w.heap.size, 0, none⟩), .pointer (some ⟨w.heap.size + 1, 0, none⟩)]) ∧ w' = (w.alloc (.cells #[.slice A n c] 25)).alloc (.cells #[.int .i64 48] 3) := by
  go_enter Tryz.func100, Tryz.ntmps100
  go_wp2
  go_ret
  exact ⟨rfl, rfl⟩
def ChPost (len : Nat) (J Jx : List Nat → World → Prop) (e : Ending) (W' : World) : Prop := (∃ v, e = .returned v) ∧
      ((∃ ys, ys = List.range (chN len) ∧ J ys W') ∨ (∃ pre, (∃ k, k ≤ chN len ∧ pre = List.range k) ∧ Jx pre W'))
set_option maxRecDepth 100000 in
set_option maxHeartbeats 2000000 in
theorem f108_in (F : Fence) (n : Nat) (h108 : F.fn 108) (hro : F.round = none) (hn : 1 ≤ n) (l b1 b2 bo len cap : Nat) (hlc : len ≤ cap) (hm : cap ≤ 9223372036854775807) (hm2 : len ≤ 1099511627776) (J Jx : List Nat → World → Prop)
    (hY : ∀ pre x W, J pre W → pre.length < chN len → YieldAt F (n - 1) Tryz.prog l #[chV bo len x] W fun e W' =>
      (e = .returned (.bool true) ∧ J (pre ++ [x]) W' ∧ KeepB b1 b2 W W') ∨ (e = .returned (.bool false) ∧ Jx (pre ++ [x]) W'))
    (W : World) (hb1 : Blk W b1 25 #[.slice (some ⟨bo, 0, none⟩) len cap]) (hb2 : Blk W b2 3 #[.int .i64 48]) (h0 : J [] W) (hJ : ∀ s A, J s A → J s A.drew) :
    CallsIn F n Tryz.prog 108 #[.func (.yield l) #[] #[], .pointer (some ⟨b1, 0, none⟩), .pointer (some ⟨b2, 0, none⟩)] W (ChPost len J Jx) := by
  refine callsIn_of_wp Tryz.func108 rfl h108 ?_ hro
  simp only [Tryz.ntmps108, List.size_toArray, List.length_cons, List.length_nil, Nat.reduceAdd, Nat.reduceSub, Array.replicate_succ, Array.replicate_zero, List.push_toArray, List.append_toArray, List.nil_append, List.cons_append]
  gi_wp2
  gi_loopw [4] (fun i wr => ∃ k o : Nat, k ≤ chN len ∧ Hid (o = 48 * k) ∧ i = .int .i64 (o : Int) ∧ J (List.range k) wr ∧ KeepB b1 b2 W wr)
    (fun i _ => 48 * chN len - (intOf i).toNat)
  case atStart => exact ⟨0, 0, Nat.zero_le _, Lib.hid rfl, rfl, h0, KeepB.rfl'⟩
  case round =>
    obtain ⟨k, o, hk, ho, rfl, hJs, hkp⟩ := hrel
    have hN : chN len = (len + 47) / 48 := rfl
    have q1 : Blk wr b1 25 #[.slice (some ⟨bo, 0, none⟩) len cap] := hkp.one.trans hb1
    have q2 : Blk wr b2 3 #[.int .i64 48] := hkp.two.trans hb2
    obtain ⟨x1, -, -⟩ := q1.rules
    obtain ⟨y1, -, -⟩ := q2.rules
    by_cases hlt : o < len
    · have hkN : k < chN len := by have := ho.out; omega
      obtain ⟨fn, tmps, assign, body, hy, hR⟩ := hY _ k wr.drew (hJ _ _ hJs) (by rw [List.length_range]; exact hkN)
      unfold chV at hy
      rw [← ho.out] at hy
      have hli : (o : Int) < (len : Int) := by omega
      obtain ⟨m, hm48, hmi, hm1, hm2⟩ : ∃ m : Nat, min 48 (len - o) = m ∧ (if ((len - o : Nat) : Int) < 48 then ((len - o : Nat) : Int) else 48) = (m : Int) ∧ m ≤ 48 ∧ o + m ≤ len := ⟨min 48 (len - o), rfl, by split <;> omega, by omega, by omega⟩
      rw [hm48] at hy
      have HM := Lib.hid hm48
      have hco : ¬ cap = o := by omega
      have hol : o ≤ len := by omega
      clear hN hm48 hlt
      gi_wp2
      gi_region
      all_goals
        gi_wp2
        refine hR.mono ?_
        rintro e W3 (⟨rfl, hJ3, hk3⟩ | ⟨rfl, hJx3⟩)
        · have q3 : Blk W3 b1 25 #[.slice (some ⟨bo, 0, none⟩) len cap] := hk3.one.trans q1
          have q4 : Blk W3 b2 3 #[.int .i64 48] := hk3.two.trans q2
          obtain ⟨z1, -, -⟩ := q3.rules
          obtain ⟨z2, -, -⟩ := q4.rules
          clear x1 y1
          gi_wp2
          refine ⟨⟨k + 1, o + 48, hkN, Lib.hid (by have := ho.out; omega), by go_num, by rw [List.range_succ]; exact hJ3, hkp.trans ⟨hk3.one, hk3.two⟩⟩, ?_⟩
          have := ho.out
          simp [intOf]; omega
        · gi_wp2
          refine bodyPost_ret (results_none rfl _ _ _) rfl ?_
          exact ⟨⟨_, rfl⟩, .inr ⟨_, ⟨k + 1, hkN, List.range_succ.symm⟩, hJx3⟩⟩
    · have hke : k = chN len := by have := ho.out; omega
      have hli : ¬ (o : Int) < (len : Int) := by omega
      have hJe := Lib.hid (hke ▸ hJs)
      clear hN hlt hke
      gi_wp2
      go_end0
      exact ⟨⟨_, rfl⟩, .inl ⟨_, rfl, hJe.out⟩⟩
theorem f108_stops (F : Fence) (n : Nat) (h108 : F.fn 108) (hro : F.round = none) (hn : 1 ≤ n) (b1 b2 bo len cap : Nat) (hlc : len ≤ cap) (hm : cap ≤ 9223372036854775807) (hm2 : len ≤ 1099511627776) (w : World) (hb1 : Blk w b1 25 #[.slice (some ⟨bo, 0, none⟩) len cap]) (hb2 : Blk w b2 3 #[.int .i64 48]) :
    SeqStopsK F n Tryz.prog 108 #[.pointer (some ⟨b1, 0, none⟩), .pointer (some ⟨b2, 0, none⟩)] (fun k : Nat => #[chV bo len k]) (KeepB b1 b2) (fun ys => ys = List.range (chN len)) (fun pre => ∃ k, k ≤ chN len ∧ pre = List.range k) (chN len) w := fun l J Jx W hW hJ _ hY h0 => by
  refine f108_in F n h108 hro hn l b1 b2 bo len cap hlc hm hm2 J Jx hY W (hb1.ext hW) (hb2.ext hW) h0 fun s A h => hJ s A A.drew none h ⟨rfl, rfl, rfl, Nat.le_refl _, fun _ _ _ => rfl⟩ (fun r e => by cases e)
end Go.Proofs.YtpjodgoljocnlaaGreatDoor
