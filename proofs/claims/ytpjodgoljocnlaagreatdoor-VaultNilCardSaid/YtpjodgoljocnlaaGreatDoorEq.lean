/- Bytes and entries held against each other. -/
import Derived.Test.YtpjodgoljocnlaaGreatDoorClone
namespace Go.Proofs.YtpjodgoljocnlaaGreatDoor
open Go Go.RowKit
variable {B : Nat}
theorem run_str (w : World) {v : Value} {bs : List UInt8} (h : IsBytes B w v bs) : (convert 25 9 v).run Tryz.prog w = .ok (.string ⟨bs.toArray⟩) w := by
  obtain ⟨A, c, rfl, h1, h2, h3, h4⟩ := h
  cases A with
  | none =>
    obtain rfl : bs = [] := List.eq_nil_of_length_eq_zero (by have := h3 rfl; omega)
    exact run_convert_bytes_nil w 25 5 Tryz.underlying25 Tryz.underlying5 _ _ 9 Tryz.underlying9
  | some ad =>
    have hl : (loadCells ad bs.length).run Tryz.prog w = .ok ((bs.map fun b => (b.toNat : Int)).map (Value.int .u8)).toArray w := by
      have := run_loadCells_list (P := Tryz.prog) w ad (bytesV bs) (fun j v hj => by
        obtain ⟨b, o, he, _, hc⟩ := h4 (by intro h; rw [h] at hj; simp at hj)
        injection he with he
        subst he
        rw [Addr.add_lit]; exact hc j v hj)
      simpa [bytesV, Function.comp_def] using this
    rw [run_convert_bytes_string w 25 9 5 _ _ _ Tryz.underlying25 Tryz.underlying5 Tryz.underlying9, run_bytesToString w _ _ _ _ hl, foldl_push_bytes]
    congr 2
    have : (List.map ((fun n : Int => UInt8.ofNat n.toNat) ∘ fun b : UInt8 => (b.toNat : Int)) bs) = bs := by
      conv => rhs; rw [← List.map_id bs]
      apply List.map_congr_left
      intro b _
      simp
    simp [ByteArray.empty, ByteArray.emptyWithCapacity, this]
    rfl
set_option maxHeartbeats 400000 in
theorem f67_calls (w : World) (u v : Value) (xs ys : List UInt8) (hu : IsBytes B w u xs) (hv : IsBytes B w v ys) :
    Calls Tryz.prog 67 #[u, v] w fun e w' => e = .returned (.bool (xs == ys)) ∧ w = w' := by
  have r1 := run_str w hu
  have r2 := run_str w hv
  clear hu hv
  go_enter Tryz.func67, Tryz.ntmps67
  go_wp2
  go_ret
  exact ⟨rfl, rfl⟩
set_option maxHeartbeats 400000 in
theorem f28_calls (w : World) (u v : Value) (xs ys : List UInt8) (hu : IsBytes B w u xs) (hv : IsBytes B w v ys) :
    Calls Tryz.prog 28 #[u, v] w fun e w' => e = .returned (.bool (xs == ys)) ∧ w = w' := by
  have r1 := run_str w hu
  have r2 := run_str w hv
  clear hu hv
  go_enter Tryz.func28, Tryz.ntmps28
  go_wp2
  go_ret
  exact ⟨rfl, rfl⟩

/-! entries -/
structure Ent where
  term : Nat
  index : Nat
  data : List UInt8
deriving DecidableEq
def IsEnt (B : Nat) (w : World) (cs : List Value) (e : Ent) : Prop :=
  ∃ d, cs = [.int .u64 e.term, .int .u64 e.index, d] ∧ IsBytes B w d e.data ∧ e.term < 18446744073709551616 ∧ e.index < 18446744073709551616
theorem IsEnt.ext {w w' : World} {cs : List Value} {e : Ent} (h : IsEnt B w cs e) (he : Ext w w') : IsEnt B w' cs e := by
  obtain ⟨d, h1, h2, h3⟩ := h
  exact ⟨d, h1, h2.ext he, h3⟩
theorem IsEnt.len {w : World} (c : List Value) (x : Ent) (h : IsEnt B w c x) : c.length = 3 := by
  obtain ⟨d, rfl, _⟩ := h
  rfl
theorem IsEnt.form {w : World} {c : List Value} {x : Ent} (h : IsEnt B w c x) : ∃ d, c = [.int .u64 x.term, .int .u64 x.index, d] ∧ IsBytes B w d x.data ∧ x.term < 18446744073709551616 ∧ x.index < 18446744073709551616 := h
def entB (a b : Ent) : Bool := a.term == b.term && a.index == b.index && a.data == b.data

set_option maxHeartbeats 400000 in
theorem f69_calls (w : World) (c d : List Value) (x y : Ent) (hx : IsEnt B w c x) (hy : IsEnt B w d y) :
    Calls Tryz.prog 69 #[.agg c.toArray, .agg d.toArray] w fun e w' => e = .returned (.bool (entB x y)) ∧ Ext w w' := by
  obtain ⟨u, rfl, hu, _, _⟩ := hx.form
  obtain ⟨v, rfl, hv, _, _⟩ := hy.form
  clear hx hy
  go_enter Tryz.func69, Tryz.ntmps69
  go_wp2_with (go_at_call 67; refine (f67_calls _ _ _ _ _ (hu.ext ((Ext.rfl'.alloc _).alloc _)) (hv.ext ((Ext.rfl'.alloc _).alloc _))).mono ?_; rintro e w' ⟨rfl, rfl⟩)
  · go_ret
    rename_i h1 h2
    exact ⟨ret_bool (by have e1 : x.term = y.term := by omega
                        have e2 : x.index = y.index := by omega
                        simp [entB, e1, e2]), (Ext.rfl'.alloc _).alloc _⟩
  · go_ret
    rename_i h1 h2
    exact ⟨ret_bool (by have e2 : x.index ≠ y.index := by omega
                        simp [entB, e2]), (Ext.rfl'.alloc _).alloc _⟩
  · go_ret
    rename_i h1
    exact ⟨ret_bool (by have e2 : x.term ≠ y.term := by omega
                        simp [entB, e2]), (Ext.rfl'.alloc _).alloc _⟩
set_option maxHeartbeats 400000 in
theorem f30_calls (w : World) (c d : List Value) (x y : Ent) (hx : IsEnt B w c x) (hy : IsEnt B w d y) :
    Calls Tryz.prog 30 #[.agg c.toArray, .agg d.toArray] w fun e w' => e = .returned (.bool (entB x y)) ∧ Ext w w' := by
  obtain ⟨u, rfl, hu, _, _⟩ := hx.form
  obtain ⟨v, rfl, hv, _, _⟩ := hy.form
  clear hx hy
  go_enter Tryz.func30, Tryz.ntmps30
  go_wp2_with (go_at_call 28; refine (f28_calls _ _ _ _ _ (hu.ext ((Ext.rfl'.alloc _).alloc _)) (hv.ext ((Ext.rfl'.alloc _).alloc _))).mono ?_; rintro e w' ⟨rfl, rfl⟩)
  · go_ret
    rename_i h1 h2
    exact ⟨ret_bool (by have e1 : x.term = y.term := by omega
                        have e2 : x.index = y.index := by omega
                        simp [entB, e1, e2]), (Ext.rfl'.alloc _).alloc _⟩
  · go_ret
    rename_i h1 h2
    exact ⟨ret_bool (by have e2 : x.index ≠ y.index := by omega
                        simp [entB, e2]), (Ext.rfl'.alloc _).alloc _⟩
  · go_ret
    rename_i h1
    exact ⟨ret_bool (by have e2 : x.term ≠ y.term := by omega
                        simp [entB, e2]), (Ext.rfl'.alloc _).alloc _⟩

/-! lists of entries -/
def entsB : List Ent → List Ent → Bool
  | [], [] => true
  | x :: xs, y :: ys => entB x y && entsB xs ys
  | _, _ => false
theorem entB_iff {a b : Ent} : entB a b = true ↔ a = b := by
  cases a; cases b; simp [entB, and_assoc]
theorem entsB_iff : ∀ {a b : List Ent}, entsB a b = true ↔ a = b
  | [], [] => by simp [entsB]
  | [], _ :: _ => by simp [entsB]
  | _ :: _, [] => by simp [entsB]
  | x :: xs, y :: ys => by simp [entsB, entB_iff, entsB_iff]
def IsEnts (B : Nat) (w : World) (v : Value) (es : List Ent) : Prop := IsSlice B 50 (IsEnt B) w v es
theorem IsEnts.form {w : World} {v : Value} {es : List Ent} (h : IsEnts B w v es) : ∃ A c cs, v = .slice A es.length c ∧ es.length ≤ c ∧ c ≤ maxLen ∧ (A = none → c = 0) ∧ rowAt B 50 w A cs ∧ Each (IsEnt B) w cs es := h
theorem IsEnts.ext {w w' : World} {v : Value} {es : List Ent} (h : IsEnts B w v es) (he : Ext w w') : IsEnts B w' v es := IsSlice.ext h he fun _ _ k => k.ext he
/-- entry k of a list, cell by cell -/
theorem ent_at {w : World} {A : Option Addr} {cs : List Value} {es : List Ent} (hr : rowAt B 50 w A cs) (hE : Each (IsEnt B) w cs es) {k : Nat} (hk : k < es.length) :
    ∃ b o d, A = some ⟨b, o, none⟩ ∧ b < w.heap.size ∧ w.cell? ⟨b, o + k * 3, none⟩ = some (.int .u64 es[k].term) ∧ w.cell? ⟨b, o + k * 3 + 1, none⟩ = some (.int .u64 es[k].index) ∧ w.cell? ⟨b, o + k * 3 + 2, none⟩ = some d ∧ IsBytes B w d es[k].data ∧ es[k].term < 18446744073709551616 ∧ es[k].index < 18446744073709551616 := by
  obtain ⟨c0, ⟨d, rfl, h2, h3, h4⟩, hat⟩ := hE.at_ (n := 3) (IsEnt.len) hk
  have hl := hE.len (n := 3) IsEnt.len
  obtain ⟨b, o, rfl, -, hc⟩ := hr (by intro h; rw [h] at hl; simp at hl; omega)
  exact ⟨b, o, d, rfl, World.block_lt_of_cell? w _ (hc _ _ (hat 0 _ rfl)), hc _ _ (hat 0 _ rfl), hc _ _ (hat 1 _ rfl), hc _ _ (hat 2 _ rfl), h2, h3, h4⟩
end Go.Proofs.YtpjodgoljocnlaaGreatDoor
