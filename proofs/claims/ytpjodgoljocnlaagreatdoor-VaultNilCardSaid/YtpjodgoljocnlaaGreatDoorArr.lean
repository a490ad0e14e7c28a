/- Arrays and structs that are read and written whole: load, store, alloc, build of many cells. -/
import Derived.Test.YtpjodgoljocnlaaGreatDoorBase
import Derived.Deep.MidRow
import Derived.Deep.RegionHeld3
import Derived.Deep.RegionLaw
import Derived.Deep.RegionWith
import Derived.StillTailTactics
namespace Go.Proofs.YtpjodgoljocnlaaGreatDoor
open Go Go.RowKit
section
variable {P : Program} {ops : Array Oper} {rest : List Oper} {o : Oper} {a : Act} {w : World} {Q : Exit → Act → World → Prop} {K : Act → World → Prop}

def aggDesc : Option TypeDesc → Bool
  | some (.struct _) | some (.array _ _) => true
  | _ => false
theorem run_isAgg {ty : TypeId} (h : aggDesc (P.underlying ty) = true) (w : World) : (isAgg ty).run P w = .ok true w := by
  cases hu : P.underlying ty with
  | none => simp [hu, aggDesc] at h
  | some d =>
    unfold isAgg
    rw [Sem.run_bind, run_underlying hu w]
    cases d <;> simp_all [aggDesc]

theorem run_load_agg {ty b off n : Nat} (t : Nat) (cur : Array Value) (cs : List Value) (hb : Blk w b t cur) (hc : ∀ j v, cs[j]? = some v → cur[off + j]? = some v) (hl : cs.length = n)
    (hd : aggDesc (P.underlying ty) = true) (hi : (P.info? ty).map (·.size) = some n) : (loadVar ty ⟨b, off, none⟩).run P w = .ok (.agg cs.toArray) w := by
  have hr : (loadCells ⟨b, off, none⟩ cs.length).run P w = .ok cs.toArray w :=
    run_loadCells_list (P := P) w ⟨b, off, none⟩ cs (fun j v hv => by
      rw [Addr.add_lit, cell_of_row w b (off + j) cur t (0, 0) hb]
      exact hc j v hv)
  cases hq : P.info? ty with
  | none => simp [hq] at hi
  | some i =>
    have hs : i.size = n := by simpa [hq] using hi
    simp [loadVar, Sem.run_bind, run_isAgg hd, sizeOf, typeInfo, hq, hs, ← hl, hr]

theorem wp_load_agg (ty : TypeId) (x : Operand) (ho : o.op = .load ty x) {b off n : Nat} (hx : a.eval x = .pointer (some ⟨b, off, none⟩)) (t : Nat) (cur : Array Value) (cs : List Value)
    (hb : Blk w b t cur) (hc : ∀ j v, cs[j]? = some v → cur[off + j]? = some v) (hl : cs.length = n) (hd : aggDesc (P.underlying ty) = true) (hi : (P.info? ty).map (·.size) = some n)
    (h : K (a.put o.dst (.agg cs.toArray)) w) : o.wp P a w K Q := by
  unfold Oper.wp execOp
  simp only [ho, hx, Instr.loadAt, Instr.sureAddr, Sem.run_bind, Sem.run_pure, Result.andThen_ok, run_load_agg t cur cs hb hc hl hd hi]
  exact h
/-- a whole struct or array is read -/
theorem wpl_load_agg (hgd : o.guard = none) (ty : TypeId) (x : Operand) (ho : o.op = .load ty x) {b off n : Nat} (hx : a.eval x = .pointer (some ⟨b, off, none⟩)) (t : Nat) (cur : Array Value) (cs : List Value)
    (hb : Blk w b t cur) (hc : ∀ j v, cs[j]? = some v → cur[off + j]? = some v) (hl : cs.length = n) (hd : aggDesc (P.underlying ty) = true) (hi : (P.info? ty).map (·.size) = some n)
    (h : wpList P ops Q rest (a.put o.dst (.agg cs.toArray)) w) : wpList P ops Q (o :: rest) a w :=
  wpList_plain hgd fun _ hK => wp_load_agg ty x ho hx t cur cs hb hc hl hd hi (hK _ _ h)

/-- a list with a piece of it turned -/
def spl (l : List Value) (off : Nat) (vs : List Value) : List Value := l.take off ++ vs ++ l.drop (off + vs.length)
theorem spl_length {l vs : List Value} {off : Nat} (h : off + vs.length ≤ l.length) : (spl l off vs).length = l.length := by
  simp [spl]; omega

theorem run_store_agg {ty b off n : Nat} (t : Nat) (cur : Array Value) (vs : List Value) (hb : Blk w b t cur) (hl : vs.length = n) (hf : off + n ≤ cur.size) (h1 : ∀ v ∈ vs, v.oneCell' = true)
    (hi : (P.info? ty).map (·.size) = some n) : (storeVar ty ⟨b, off, none⟩ (.agg vs.toArray)).run P w = .ok () (w.setRow b (spl cur.toList off vs).toArray) := by
  have hst := run_storeCells_at P b off t vs 0 cur w hb (by simp; omega) h1
  simp only [Nat.add_zero] at hst
  cases hq : P.info? ty with
  | none => simp [hq] at hi
  | some i =>
    have hs : i.size = n := by simpa [hq] using hi
    simp [storeVar, Value.cells, sizeOf, typeInfo, hq, hs, hl, hst, spl]

theorem wp_store_agg (ty : TypeId) (x y : Operand) (ho : o.op = .store ty x y) {b off n : Nat} (hx : a.eval x = .pointer (some ⟨b, off, none⟩)) (vs : List Value) (hy : a.eval y = .agg vs.toArray) (t : Nat) (cur : Array Value)
    (hb : Blk w b t cur) (hl : vs.length = n) (hf : off + n ≤ cur.size) (h1 : ∀ v ∈ vs, v.oneCell' = true) (hi : (P.info? ty).map (·.size) = some n)
    (h : K (a.put o.dst undef) (w.setRow b (spl cur.toList off vs).toArray)) : o.wp P a w K Q := by
  unfold Oper.wp execOp
  simp only [ho, hx, hy, Instr.storeAt, Instr.sureAddr, Sem.run_bind, Sem.run_pure, Result.andThen_ok, run_store_agg t cur vs hb hl hf h1 hi]
  exact h
/-- a whole struct or array is written -/
theorem wpl_store_agg (hgd : o.guard = none) (ty : TypeId) (x y : Operand) (ho : o.op = .store ty x y) {b off n : Nat} (hx : a.eval x = .pointer (some ⟨b, off, none⟩)) (vs : List Value) (hy : a.eval y = .agg vs.toArray) (t : Nat) (cur : Array Value)
    (hb : Blk w b t cur) (hl : vs.length = n) (hf : off + n ≤ cur.size) (h1 : ∀ v ∈ vs, v.oneCell' = true) (hi : (P.info? ty).map (·.size) = some n)
    (h : wpList P ops Q rest (a.put o.dst undef) (w.setRow b (spl cur.toList off vs).toArray)) : wpList P ops Q (o :: rest) a w :=
  wpList_plain hgd fun _ hK => wp_store_agg ty x y ho hx vs hy t cur hb hl hf h1 hi (hK _ _ h)

theorem wp_alloc_ty (ty : TypeId) (ho : o.op = .alloc ty) (i : TypeInfo) (z : Value) (hi : P.info? ty = some i) (hz : i.zero = some z)
    (h : K (a.put o.dst (.pointer (some ⟨w.heap.size, 0, none⟩))) (w.alloc (.cells z.cells ty))) : o.wp P a w K Q := by
  unfold Oper.wp execOp
  have : (Instr.alloc ty true (.tuple #[])).run P w = .ok (.pointer (some ⟨w.heap.size, 0, none⟩)) (w.alloc (.cells z.cells ty)) := by
    simp [Instr.alloc, zeroValue, typeInfo, hi, hz, newVar, newRow, newObj]
    rfl
  simp only [ho, Sem.run_bind, Sem.run_pure, Result.andThen_ok, this]
  exact h
/-- a new variable: its zero value is not written out -/
theorem wpl_alloc_ty (hgd : o.guard = none) (ty : TypeId) (ho : o.op = .alloc ty) (i : TypeInfo) (z : Value) (hi : P.info? ty = some i) (hz : i.zero = some z)
    (h : wpList P ops Q rest (a.put o.dst (.pointer (some ⟨w.heap.size, 0, none⟩))) (w.alloc (.cells z.cells ty))) : wpList P ops Q (o :: rest) a w :=
  wpList_plain hgd fun _ hK => wp_alloc_ty ty ho i z hi hz (hK _ _ h)
end

/-- a region whose operations but the last ones only read: the draw under its name -/
theorem wp_region_tail {P : Program} {id : Nat} {Q : Exit → Act → World → Prop} {a : Act} {w : World} {l : List Oper} (n : Nat) (hm : P.follows .mixedOrders = true) (hB : Region.lexTailB .any l.toArray n = true)
    (h : wpStill P l.toArray w.drew (fun a' => wpList P l.toArray Q (l.drop n) a' w.drew) (l.take n) a) : (Code.region id l.toArray true).wp P Q a w :=
  wp_region_still_tail n hm hB h
/-! ### rows turned in bulk -/
theorem setRow_alloc (w : World) (t : Nat) (c c' : Array Value) : (w.alloc (.cells c t)).setRow w.heap.size c' = w.alloc (.cells c' t) := by
  simp only [World.setRow, World.alloc]
  congr 1
  apply Array.ext
  · simp
  · intro i h1 h2
    simp only [Array.getElem_modify]
    split
    · rename_i h; subst h; simp
    · rename_i h; simp at h2; rw [Array.getElem_push_lt (by omega), Array.getElem_push_lt (by omega)]
section
variable {P : Program} {ops : Array Oper} {rest : List Oper} {o : Oper} {a : Act} {w : World} {Q : Exit → Act → World → Prop} {K : Act → World → Prop}
theorem spl_whole {cur vs : List Value} (h : vs.length = cur.length) : spl cur 0 vs = vs := by simp [spl, h]
/-- a whole block is written -/
theorem wpl_store_whole (hgd : o.guard = none) (ty : TypeId) (x y : Operand) (ho : o.op = .store ty x y) {b n : Nat} (hx : a.eval x = .pointer (some ⟨b, 0, none⟩)) (vs : Array Value) (hy : a.eval y = .agg vs) (t : Nat) (cur : Array Value)
    (hb : Blk w b t cur) (hl : vs.size = n) (hf : cur.size = n) (h1 : ∀ v ∈ vs.toList, v.oneCell' = true) (hi : (P.info? ty).map (·.size) = some n)
    (h : wpList P ops Q rest (a.put o.dst undef) (w.setRow b vs)) : wpList P ops Q (o :: rest) a w :=
  wpl_store_agg hgd ty x y ho hx vs.toList (by rw [hy]) t cur hb (by simpa using hl) (by omega) h1 hi (by rw [spl_whole (by simp; omega)]; exact h)
/-- a variable that was just laid is written -/
theorem wpl_store_new (hgd : o.guard = none) (ty : TypeId) (x y : Operand) (ho : o.op = .store ty x y) (w0 : World) {n : Nat} (t : Nat) (cur : Array Value) (hw : w = w0.alloc (.cells cur t)) (hx : a.eval x = .pointer (some ⟨w0.heap.size, 0, none⟩)) (vs : Array Value) (hy : a.eval y = .agg vs)
    (hl : vs.size = n) (hf : cur.size = n) (h1 : ∀ v ∈ vs.toList, v.oneCell' = true) (hi : (P.info? ty).map (·.size) = some n)
    (h : wpList P ops Q rest (a.put o.dst undef) (w0.alloc (.cells vs t))) : wpList P ops Q (o :: rest) a w := by
  subst hw
  exact wpl_store_whole hgd ty x y ho hx vs hy t cur (Blk.new w0 t cur) hl hf h1 hi (by rw [setRow_alloc]; exact h)
end
theorem Blk.row {w : World} {b t : Nat} {cs : Array Value} (h : Blk w b t cs) (cs' : Array Value) : Blk (w.setRow b cs') b t cs' := setRow_heap w b cs cs' t (0, 0) h
theorem Blk.rowFar {w : World} {b t g : Nat} {cs : Array Value} (h : Blk w b t cs) (hg : b ≠ g) (cs' : Array Value) : Blk (w.setRow g cs') b t cs := (setRow_other w g b cs' hg).trans h
theorem heap_row_type {w : World} {g b e : Nat} {cs c : Array Value} {fr : Nat × Nat} (h : w.heap[b]? = some (.cells c e fr)) : ∃ c', (w.setRow g cs).heap[b]? = some (.cells c' e fr) := by
  by_cases hb : b = g
  · subst hb; exact ⟨cs, setRow_heap w b c cs e fr h⟩
  · exact ⟨c, (setRow_other w g b cs hb).trans h⟩
theorem Mut.row {B : Nat} {T : List Nat} {a w : World} {g t : Nat} {c0 : Array Value} (h : Mut B T a w) (hb : Blk a g t c0) (ht : t ∈ T) (hB : B ≤ g) (cs : Array Value) : Mut B T a (w.setRow g cs) := by
  refine ⟨h.os, h.tape, h.output, by simpa using h.size, fun b hb' htt => ?_, fun b c e fr hbb => ?_⟩
  · have hne : b ≠ g := by
      rintro rfl
      rcases htt with h1 | h1
      · omega
      · exact h1 _ _ _ hb ht
    exact (setRow_other w g b cs hne).trans (h.block b hb' htt)
  · obtain ⟨c', h1⟩ := h.type b c e fr hbb
    exact heap_row_type h1
theorem Mut.rowNew {B : Nat} {T : List Nat} {a w : World} {g : Nat} (h : Mut B T a w) (hg : a.heap.size ≤ g) (cs : Array Value) : Mut B T a (w.setRow g cs) := by
  refine ⟨h.os, h.tape, h.output, by simpa using h.size, fun b hb' htt => (setRow_other w g b cs (by omega)).trans (h.block b hb' htt), fun b c e fr hbb => ?_⟩
  obtain ⟨c', h1⟩ := h.type b c e fr hbb
  exact heap_row_type h1
theorem Ext.row {a w : World} {g : Nat} (h : Ext a w) (hg : a.heap.size ≤ g) (cs : Array Value) : Ext a (w.setRow g cs) :=
  ⟨h.os, h.tape, h.output, by simpa using h.size, fun b hb => (setRow_other w g b cs (by omega)).trans (h.block b hb)⟩

end Go.Proofs.YtpjodgoljocnlaaGreatDoor
