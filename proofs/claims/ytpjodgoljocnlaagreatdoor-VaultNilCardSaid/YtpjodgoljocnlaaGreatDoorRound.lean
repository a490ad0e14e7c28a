/- Operations within a round of a range over a function are carried out as everywhere: a plain walk serves there. And what a turned block that is no cells leaves. -/
import Derived.RangeFuncNested
import Derived.RangeFuncBound
import Derived.RangeFuncCalls
import Derived.RangeFuncLeaves
import Derived.Shelf.Abstract
import Derived.Shelf.RegionOpen
import Derived.WalkKit
import Derived.OwnWalkIn
import Derived.TacticsInMore
import Derived.LoopNIn
import Derived.LoopIn
import Derived.StillTailTactics
import Derived.Deep.RegionHeld3
import Derived.Test.YtpjodgoljocnlaaGreatDoorTook
namespace Go.Proofs.YtpjodgoljocnlaaGreatDoor
open Go Go.RowKit Go.Shelf
variable {B e' : Nat}
section
variable {P : Program} {l n : Nat} {Q : Exit → Act → World → Prop}
def nodef (o : Oper) : Bool := match o.op with
  | .defer _ => false
  | _ => true
theorem nodef_spec {o : Oper} (h : nodef o = true) : ∀ c, o.op ≠ .defer c := by
  intro c hc
  simp [nodef, hc] at h
theorem op_in {o : Oper} {a : Act} {w : World} {K : Act → World → Prop} (hd : nodef o = true) (h : o.wp P a w K Q) : o.wpIn (Fence.wide.inRound l) n P a w K Q := by
  refine ⟨fun _ _ => trivial, ?_⟩
  rw [Oper.semAt_eq _ _ _ (nodef_spec hd)]
  unfold Oper.wp at h
  generalize (execOp a.eval o).run P w = r at *
  cases r with
  | ok nx w' =>
    cases nx <;> simp only [Oper.upon, Oper.uponIn] at h ⊢ <;>
      first
        | exact h
        | exact ⟨(fun h => by cases h), CallsIn.inRound l (callsIn_wide.2 h)⟩
        | exact ⟨(fun h => by cases h), fun c cs _ => let ⟨v, w', r, s⟩ := h c cs; ⟨v, w', r, stepsIn_wide.2 s⟩⟩
  | halt x w' => cases x <;> simp only [Oper.upon, Oper.uponIn] at h ⊢ <;> exact h
theorem wpList_in {ops : Array Oper} (hl : ¬ LetsOut Q) : ∀ (os : List Oper) (a : Act) (w : World), os.all nodef = true → wpList P ops Q os a w → wpListIn (Fence.wide.inRound l) n P ops Q os a w
  | [], _, _, _, h => h
  | o :: os, a, w, hd, h => by
    simp only [List.all_cons, Bool.and_eq_true] at hd
    unfold wpListIn
    unfold wpList at h
    split
    · rename_i hw
      rw [if_pos hw] at h
      rcases h with h | h
      · exact Oper.wpIn_mono (fun a w h => wpList_in hl os a w hd.2 h) (op_in hd.1 h)
      · exact absurd h.2 hl
    · rename_i hw
      rw [if_neg hw] at h
      exact ⟨fun _ _ => trivial, wpList_in hl os _ w hd.2 h⟩
theorem wpAny_in {ops : Array Oper} {md : Region.Mode} (hd : ops.toList.all nodef = true) (hl : ¬ LetsOut Q) : ∀ (fuel : Nat) (listed : Array Bool) (a : Act) (w : World), wpAny P md ops Q fuel listed a w → wpAnyIn (Fence.wide.inRound l) n P md ops Q fuel listed a w
  | 0, _, _, _, h => h
  | fuel + 1, listed, a, w, h => by
    refine ⟨h.1, fun i hi => ?_⟩
    have h1 := h.2 i hi
    unfold wpOpIn
    unfold wpOp at h1
    split
    · rename_i ho
      simp only [ho] at h1
      exact wpAny_in hd hl fuel _ _ _ h1
    · rename_i o ho
      simp only [ho] at h1
      have hdo : nodef o = true := List.all_eq_true.1 hd o (by rw [Array.mem_toList_iff]; exact Array.mem_of_getElem? ho)
      split
      · rename_i hw
        rw [if_pos hw] at h1
        rcases h1 with h1 | h1
        · exact Oper.wpIn_mono (fun a w h => wpAny_in hd hl fuel _ a w h) (op_in hdo h1)
        · exact absurd h1.2 hl
      · rename_i hw
        rw [if_neg hw] at h1
        exact ⟨fun _ _ => trivial, wpAny_in hd hl fuel _ _ _ h1⟩
/-- a region that draws, within a round: reads first -/
theorem in_region_tail {id : Nat} {a : Act} {w : World} {os : List Oper} (k : Nat) (hm : P.follows .mixedOrders = true) (hB : Region.lexTailB .any os.toArray k = true) (hd : os.all nodef = true) (hl : ¬ LetsOut Q)
    (h : wpStill P os.toArray w.drew (fun a' => wpList P os.toArray Q (os.drop k) a' w.drew) (os.take k) a) : (Code.region id os.toArray true).wpIn (Fence.wide.inRound l) n P Q a w := by
  simp only [Region.lexTailB, Bool.and_eq_true, decide_eq_true_eq] at hB
  obtain ⟨⟨⟨⟨hsel, hn⟩, hs⟩, hc⟩, hlex⟩ := hB
  have hn' : k < os.length := by simpa using hn
  have htl : (os.take k).length = k := by simp; omega
  have hdl : (os.drop k).length = os.toArray.size - k := by simp
  have inv0 : HeadInv .any os.toArray k (Array.replicate os.toArray.size false) :=
    ⟨by simp, fun j oj _ hl => (by rw [getD_replicate_false] at hl; cases hl), fun t _ ht => getD_in (by simpa using ht) (getD_replicate_false _ _)⟩
  have H := wpAnyL_lex (md := .any) (g := os.toArray.size - k) hsel hs hc hn (os.take k) 0 _ a (fun j hj => by
    have hj' : j < k := by rw [htl] at hj; exact hj
    simp [hj']) (by simpa using htl) inv0 (by rw [htl]; exact hlex) h
  refine wpIn_region_any hm (wpAny_in (by simpa using hd) hl _ _ _ _ ?_)
  have := wpAny_of_head (Q' := Q) (g := os.toArray.size - k) (fun listed a' hL => by
    have := wpAny_of_seq (md := .any) (Q' := Q) (os.drop k) k listed a' { w with drawn := w.drawn + 1 } (fun j => by simp [List.getElem?_drop]) (by rw [hdl]; exact hL.1) hL.2
    rwa [hdl] at this) _ _ _ H
  rw [htl, show k + (os.toArray.size - k) = os.toArray.size by omega] at this
  exact this
/-- a region that draws, within a round: what S names is held -/
theorem in_region_held {id : Nat} {a : Act} {w : World} {ops : Array Oper} {S : World → Prop} (hm : P.follows .mixedOrders = true) (hd : ops.toList.all nodef = true) (hl : ¬ LetsOut Q) (hS : S w.drew)
    (h : S w.drew → wpAnyH P .any ops Q S ops.size (Array.replicate ops.size false) a w.drew) : (Code.region id ops true).wpIn (Fence.wide.inRound l) n P Q a w :=
  wpIn_region_any hm (wpAny_in hd hl _ _ _ _ (wpAny_of_held _ _ _ _ (h hS)))
end
/-- a region that only reads: the draw under its name -/
theorem wp_region_reads {P : Program} {id : Nat} {Q : Exit → Act → World → Prop} {a : Act} {w : World} {l : List Oper} (hm : P.follows .mixedOrders = true) (hB : Region.lexB .any l.toArray = true)
    (h : wpStill P l.toArray w.drew (fun a' => Q .normal a' w.drew) l a) : (Code.region id l.toArray true).wp P Q a w := wp_region_still_lit hm hB h
/-! ### a block that is no cells has turned -/
/-- all cells as they were -/
def Cells (W W' : World) : Prop := ∀ (b : Nat) c e fr, W.heap[b]? = some (.cells c e fr) → W'.heap[b]? = some (.cells c e fr)
theorem Cells.of {W W' : World} {row : Option Nat} (hg : W.grownBy W' row) (hr : ∀ r, row = some r → ∃ o : Obj, W.heap[r]? = some o ∧ o.isCells = false) : Cells W W' :=
  fun _ _ _ _ h => (grownBy_keeps_cells hg hr h rfl).trans h
theorem Cells.cell {W W' : World} (h : Cells W W') {a : Addr} {v : Value} (hc : W.cell? a = some v) : W'.cell? a = some v := by
  obtain ⟨o, ho, hcc⟩ := cells_of_cell hc
  cases o <;> simp [Obj.isCells] at hcc
  exact (World.cell?_of_block (w := W) ((h _ _ _ _ ho).trans ho.symm)).trans hc
theorem Cells.blk {W W' : World} (h : Cells W W') {b t : Nat} {cs : Array Value} (hb : Blk W b t cs) : Blk W' b t cs := h _ _ _ _ hb
theorem Cells.own {W W' : World} (h : Cells W W') {base e size n : Nat} {v : Value} {xs : List Value} (ho : W.ownsRow base e size v n xs) : W'.ownsRow base e size v n xs := by
  refine ⟨ho.1, ?_⟩
  rcases ho.2 with hn | ⟨g, cap, cur, rfl, hb, hg, rest⟩
  · exact .inl hn
  · exact .inr ⟨g, cap, cur, rfl, hb, h _ _ _ _ hg, rest⟩
theorem Cells.row {W W' : World} (h : Cells W W') {e : Nat} {A : Option Addr} {cs : List Value} (hr : rowAt B e W A cs) : rowAt B e W' A cs := fun hn => by
  obtain ⟨b, o, h1, h0, h2⟩ := hr hn
  refine ⟨b, o, h1, ?_, fun i v hi => h.cell (h2 i v hi)⟩
  rcases h0 with h0 | ⟨c, fr, h0⟩
  · exact .inl h0
  · exact .inr ⟨c, fr, h _ _ _ _ h0⟩
theorem Cells.bytes {W W' : World} (h : Cells W W') {v : Value} {bs : List UInt8} (hv : IsBytes B W v bs) : IsBytes B W' v bs := by
  obtain ⟨A, c, h1, h2, h3, h3', h4⟩ := hv
  exact ⟨A, c, h1, h2, h3, h3', h.row h4⟩
theorem Cells.disk {W W' : World} (h : Cells W W') {p : Nat} {d : Dk} (hd : DiskAt B W p d) : DiskAt B W' p d := by
  obtain ⟨kb, wv, a, b, c, e, f, g⟩ := hd
  exact ⟨kb, wv, h.blk a, b, c, h.blk e, h.own f, g⟩
theorem Cells.log {W W' : World} (h : Cells W W') {p dp : Nat} {g : Wg} (hd : LogAt B W p dp g) : LogAt B W' p dp g := by
  obtain ⟨rv, vs, pv, h1, h2, h3, h4, h5, h6⟩ := hd
  exact ⟨rv, vs, pv, h.blk h1, h2, h.disk h3, ⟨h.own h4.row, h4.each.ext fun c x => by rintro ⟨v, rfl, hb⟩; exact ⟨v, rfl, h.bytes hb⟩⟩, h.own h5, h6⟩
theorem Mut.turn {T : List Nat} {a W W' : World} {row : Option Nat} (h : Mut B T a W) (hg : W.grownBy W' row) (hr : ∀ r, row = some r → a.heap.size ≤ r ∧ ∃ o : Obj, W.heap[r]? = some o ∧ o.isCells = false) : Mut B T a W' := by
  have hc := Cells.of hg fun r e => (hr r e).2
  refine ⟨hg.os.trans h.os, hg.tape.trans h.tape, hg.output.trans h.output, Nat.le_trans h.size hg.size, fun b hb ht => ?_, fun b c e fr hb => ?_⟩
  · refine (hg.block b (Nat.lt_of_lt_of_le hb h.size) fun e => ?_).trans (h.block b hb ht)
    have := (hr b e.symm).1
    omega
  · obtain ⟨c', h1⟩ := h.type b c e fr hb
    exact ⟨c', hc _ _ _ _ h1⟩
theorem Mut.keeps {T : List Nat} {W W' : World} (h : Mut B T W W') : KeepsOthers W W' :=
  ⟨h.size, fun k o hk ho => (h.block k (Array.getElem?_eq_some_iff.1 hk).1 (.inr fun c e fr hc => by rw [hk] at hc; cases hc; cases ho)).trans hk⟩
theorem RecFar.turn {p : Nat} {a W W' : World} {row : Option Nat} {u : Value} (h : RecFar p a W) (hp : W.cell? ⟨p, 4, none⟩ = some u) (hs : a.heap.size ≤ W.heap.size) (hg : W.grownBy W' row) (hr : ∀ r, row = some r → a.heap.size ≤ r ∧ ∃ o : Obj, W.heap[r]? = some o ∧ o.isCells = false) : RecFar p a W' := by
  have hc := Cells.of hg fun r e => (hr r e).2
  refine ⟨fun b c fr hb hn => ?_, fun v' hv' b hb hlt => h.row v' ?_ b hb hlt⟩
  · have h1 := h.far b c fr hb hn
    exact (hc _ _ _ _ (h1.trans hb)).trans hb.symm
  · rw [hc.cell hp] at hv'; rw [hp]; exact hv'
end Go.Proofs.YtpjodgoljocnlaaGreatDoor
