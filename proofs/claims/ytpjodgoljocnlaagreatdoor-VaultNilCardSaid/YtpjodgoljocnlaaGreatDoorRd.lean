/- An argument of the log's type, as the row reads it: what it is in the walks' words; and that it reads as it did. -/
import Derived.Test.YtpjodgoljocnlaaGreatDoorRows
import Derived.Test.YtpjodgoljocnlaaGreatDoorOwn
import Derived.Deep.Strs
import Derived.Deep.Slices
import Derived.ChangeSlices
import Derived.ChangeStays
import Derived.ChangeSame
namespace Go.Proofs.YtpjodgoljocnlaaGreatDoor
open Go Go.RowKit Go.ChangeShapes Go.WideShapes Go.Deep
section
variable {H : Type} {enc : TypeId × Value → H} {W : World}
theorem Tryz.cells5 : Tryz.prog.cellsOf 5 = 1 := by kernel_rfl
theorem Tryz.cells22 : Tryz.prog.cellsOf 22 = 1 := by kernel_rfl
theorem Tryz.cells3 : Tryz.prog.cellsOf 3 = 1 := by kernel_rfl
theorem Tryz.cells24 : Tryz.prog.cellsOf 24 = 2 := by kernel_rfl
theorem Tryz.cells25 : Tryz.prog.cellsOf 25 = 1 := by kernel_rfl
theorem Tryz.cells27 : Tryz.prog.cellsOf 27 = 3 := by kernel_rfl
theorem Tryz.cells28 : Tryz.prog.cellsOf 28 = 1 := by kernel_rfl
theorem Tryz.cells30 : Tryz.prog.cellsOf 30 = 6 := by kernel_rfl
theorem Tryz.cells50 : Tryz.prog.cellsOf 50 = 3 := by kernel_rfl
theorem bulk_one {H : Type} (d : DataW H) : 1 ≤ Rows.uptoBulk d := by
  cases d with
  | lit l => cases l <;> simp [Rows.uptoBulk]
  | nil => simp [Rows.uptoBulk]
  | ptr d => simp [Rows.uptoBulk]
  | slice elems spare => simp [Rows.uptoBulk]
  | agg parts => simp [Rows.uptoBulk]
  | iface t d => simp [Rows.uptoBulk]
  | map entries => simp [Rows.uptoBulk]
  | held h => simp [Rows.uptoBulk]
theorem bulk_append {H : Type} (l r : List (DataW H)) : Rows.uptoBulkAll (l ++ r) = Rows.uptoBulkAll l + Rows.uptoBulkAll r := by
  induction l with
  | nil => simp [Rows.uptoBulkAll]
  | cons x l ih => simp only [List.cons_append, Rows.uptoBulkAll, ih]; omega
theorem bulk_len {H : Type} (l : List (DataW H)) : l.length ≤ Rows.uptoBulkAll l := by
  induction l with
  | nil => simp [Rows.uptoBulkAll]
  | cons x r ih => have := bulk_one x; simp only [Rows.uptoBulkAll, List.length_cons]; omega
theorem addr_of_cell {a : Addr} {v : Value} (h : W.cell? a = some v) : a.spot = none := by
  unfold World.cell? at h
  split at h
  · split at h
    · cases h
    · cases hs : a.spot with
      | none => rfl
      | some k => simp_all
  · cases h
theorem add_form (b o i : Nat) : (Addr.mk b o none).add i = ⟨b, o + i, none⟩ := by
  unfold Addr.add
  by_cases h : i = 0 <;> simp [h]
/-- cells in a row: a row of the walks' -/
theorem row_of_cells {e : Nat} (a : Addr) (cs : List Value) (h : ∀ i v, cs[i]? = some v → W.cell? (a.add i) = some v) : rowAt W.heap.size e W (some a) cs := fun hn => by
  have h0 : W.cell? (a.add 0) = some (cs[0]'(List.length_pos_iff.2 hn)) := h 0 _ (List.getElem?_eq_getElem _)
  have hz : a.add 0 = a := by unfold Addr.add; simp
  rw [hz] at h0
  have hs := addr_of_cell h0
  obtain ⟨b, o, s⟩ := a
  simp only at hs
  subst hs
  refine ⟨b, o, rfl, .inl (World.block_lt_of_cell? W _ h0), fun i v hi => ?_⟩
  have := h i v hi
  rwa [add_form] at this
theorem u8_wf {n : Int} (h : (Lit.int .u8 n).wf = true) : 0 ≤ n ∧ n < 256 := by
  have : 0 ≤ n ∧ n ≤ 255 := by simpa [Lit.wf, IntKind.min, IntKind.max, IntKind.signed, IntKind.bits] using h
  omega
theorem u64_wf {n : Int} (h : (Lit.int .u64 n).wf = true) : 0 ≤ n ∧ n < 18446744073709551616 := by
  have : 0 ≤ n ∧ n ≤ 18446744073709551615 := by simpa [Lit.wf, IntKind.min, IntKind.max, IntKind.signed, IntKind.bits] using h
  omega
theorem i64_wf {n : Int} (h : (Lit.int .i64 n).wf = true) : -9223372036854775808 ≤ n ∧ n < 9223372036854775808 := by
  have : -9223372036854775808 ≤ n ∧ n ≤ 9223372036854775807 := by simpa [Lit.wf, IntKind.min, IntKind.max, IntKind.signed, IntKind.bits] using h
  omega
set_option maxRecDepth 100000 in
theorem bytes_of_trod {n : Nat} {cs : List Value} {x : DataW H × List MemPlace} (h : DataW.trod enc Tryz.prog W 0 (fun _ => true) true n 25 cs = some x) :
    ∃ bs v, cs = [v] ∧ IsBytes W.heap.size W v bs ∧ bs.length + 1 ≤ Rows.uptoBulk x.1 := by
  rcases open_ints Tryz.underlying25 Tryz.underlying5 Tryz.cells5 h with ⟨rfl, rfl⟩ | ⟨a, len, cap, zs, rfl, -, hl, hm, hz, rfl, hc, hw⟩
  · exact ⟨[], _, rfl, IsBytes.nil _, by simp [Rows.uptoBulk]⟩
  simp only [if_true] at hz
  have hlen : ((zs.take len).map fun z => UInt8.ofNat z.toNat).length = len := by simp; omega
  refine ⟨(zs.take len).map fun z => UInt8.ofNat z.toNat, _, rfl, ⟨some a, cap, by rw [hlen], by omega, hm, by simp, ?_⟩, ?_⟩
  · refine row_of_cells a _ fun i v hi => ?_
    simp only [bytesV, List.map_map, List.getElem?_map, Option.map_eq_some_iff] at hi
    obtain ⟨z, hz1, rfl⟩ := hi
    have hi2 : i < len := by
      have := (List.getElem?_eq_some_iff.1 hz1).1
      simp at this; omega
    have hz2 : zs[i]? = some z := by rw [List.getElem?_take] at hz1; simpa [hi2] using hz1
    have hw' := u8_wf (hw z (List.mem_of_getElem? hz2))
    rw [hc i (by omega)]
    simp only [List.getD, hz2, Option.getD_some, Function.comp_apply]
    have : ((UInt8.ofNat z.toNat).toNat : Int) = z := by
      rw [UInt8.toNat_ofNat']
      omega
    rw [this]
  · rw [hlen]
    simp only [Rows.uptoBulk]
    have := bulk_len (lits (H := H) .u8 (zs.take len))
    have h2 : (lits (H := H) .u8 (zs.take len)).length = len := by simp [lits]; omega
    omega
set_option maxRecDepth 100000 in
theorem ent_of_trod {n : Nat} {cs : List Value} {x : DataW H × List MemPlace} (h : DataW.trod enc Tryz.prog W 0 (fun _ => true) true n 50 cs = some x) :
    ∃ e : Ent, IsEnt W.heap.size W cs e ∧ e.data.length + 1 ≤ Rows.uptoBulk x.1 := by
  obtain ⟨y0, y1, y2, m, rfl, hl, h0, h1, h2⟩ := trod_struct3 Tryz.underlying50 h
  rw [Tryz.cells50] at hl
  match cs, hl with
  | [c0, c1, c2], _ =>
    simp only [Tryz.cells22, Tryz.cells25, List.drop, List.take] at h0 h1 h2
    obtain ⟨n0, e0, rfl, w0⟩ := DataW.trod_int Tryz.underlying22 h0
    obtain ⟨n1, e1, rfl, w1⟩ := DataW.trod_int Tryz.underlying22 h1
    obtain ⟨bs, v, e2, hb, hk⟩ := bytes_of_trod h2
    cases e0; cases e1; cases e2
    have := u64_wf w0
    have := u64_wf w1
    obtain ⟨k0, rfl⟩ := Int.eq_ofNat_of_zero_le (u64_wf w0).1
    obtain ⟨k1, rfl⟩ := Int.eq_ofNat_of_zero_le (u64_wf w1).1
    refine ⟨⟨k0, k1, bs⟩, ⟨_, rfl, hb, by simp; omega, by simp; omega⟩, ?_⟩
    simp only [Rows.uptoBulk, Rows.uptoBulkAll]
    omega
theorem three_len {c0 c1 : List Value} {k : Nat} (h : c0.length = 3 * k) (h1 : c1.length = 3) : (c0 ++ c1).length = 3 * (k + 1) := by rw [List.length_append]; omega
set_option maxRecDepth 100000 in
theorem ents_upto {a : Addr} {len m : Nat} {D : Nat → DataW H} {Pl : Nat → List MemPlace} {n : Nat} (hm : len ≤ m)
    (h : ∀ i, i < m → ∃ cs', W.cells? 0 (a.add (i * Tryz.prog.cellsOf 50)) (Tryz.prog.cellsOf 50) = some cs' ∧ DataW.trod enc Tryz.prog W 0 (fun _ => true) true n 50 cs' = some (D i, Pl i)) :
    ∀ k, k ≤ len → ∃ (es : List Ent) (cs : List Value), es.length = k ∧ cs.length = 3 * k ∧ Each (IsEnt W.heap.size) W cs es ∧ (∀ i v, cs[i]? = some v → W.cell? (a.add i) = some v) ∧ sumLen es + k ≤ Rows.uptoBulkAll ((List.range k).map D)
  | 0, _ => ⟨[], [], rfl, rfl, rfl, by simp, by simp [sumLen]⟩
  | k + 1, hk => by
    obtain ⟨es, cs, h1, h2, h3, h4, h5⟩ := ents_upto hm h k (by omega)
    obtain ⟨c, hc, ht⟩ := h k (by omega)
    obtain ⟨e, he, hb⟩ := ent_of_trod ht
    obtain ⟨-, hcl, hcc⟩ := World.cells?_some hc
    rw [Tryz.cells50] at hcl hcc
    refine ⟨es ++ [e], cs ++ c, by simp [h1], three_len h2 hcl, h3.append (Each.one he), fun i v hi => ?_, ?_⟩
    · by_cases hlt : i < cs.length
      · rw [List.getElem?_append_left hlt] at hi
        exact h4 i v hi
      · rw [List.getElem?_append_right (by omega)] at hi
        have hil := (List.getElem?_eq_some_iff.1 hi).1
        have := hcc (i - cs.length) (by omega)
        rw [Deep.add_add, hi] at this
        rw [← this]
        congr 2
        omega
    · rw [sumLen_append, List.range_succ, List.map_append, bulk_append]
      simp only [List.map_cons, List.map_nil, Rows.uptoBulkAll, sumLen]
      simp only at hb
      omega
set_option maxRecDepth 100000 in
theorem ents_of_trod {n : Nat} {cs : List Value} {x : DataW H × List MemPlace} (h : DataW.trod enc Tryz.prog W 0 (fun _ => true) true n 28 cs = some x) :
    ∃ es v, cs = [v] ∧ IsEnts W.heap.size W v es ∧ sumLen es + es.length + 1 ≤ Rows.uptoBulk x.1 := by
  rcases Deep.open_slice Tryz.underlying28 h with ⟨rfl, rfl⟩ | ⟨a, len, cap, m, k, D, Pl, rfl, -, hl, hm, hmm, rfl, hall⟩
  · exact ⟨[], _, rfl, IsSlice.nil, by simp [Rows.uptoBulk, sumLen]⟩
  simp only [if_true] at hmm
  obtain ⟨es, cs, h1, h2, h3, h4, h5⟩ := ents_upto (by omega) hall len (Nat.le_refl _)
  refine ⟨es, _, rfl, ⟨some a, cap, cs, by rw [h1], by omega, hm, by simp, row_of_cells a cs h4, h3⟩, ?_⟩
  simp only [Rows.uptoBulk]
  omega
theorem array6 {α : Type} {cs : Array α} (h : cs.size = 6) : ∃ c0 c1 c2 c3 c4 c5, cs = #[c0, c1, c2, c3, c4, c5] := by
  obtain ⟨l⟩ := cs
  match l, h with
  | [c0, c1, c2, c3, c4, c5], _ => exact ⟨c0, c1, c2, c3, c4, c5, rfl⟩
set_option maxRecDepth 100000 in
theorem log_of_trod {r : Reach} {b0 : Nat} {v : Value} {d : DataW H} {p : List MemPlace} (hv : Value.okWide Tryz.prog W r b0 30 v) (h : DataW.Trod enc Tryz.prog W 0 (fun _ => true) true 30 v d p) :
    ∃ l : Lg, IsLog W.heap.size W v l ∧ l.sdata.length + sumLen l.ents + l.ents.length ≤ Rows.uptoBulk d := by
  obtain ⟨cs, rfl, hsz⟩ := okWide_struct Tryz.underlying30 hv
  rw [Tryz.cells30] at hsz
  obtain ⟨c0, c1, c2, c3, c4, c5, rfl⟩ := array6 hsz
  obtain ⟨fuel, hf⟩ := h
  obtain ⟨y0, y1, y2, m, hx, -, h0, h1, h2⟩ := Deep.trod_struct3 Tryz.underlying30 hf
  simp only [Value.cells, Tryz.cells24, Tryz.cells27, Tryz.cells28, List.drop, List.take] at h0 h1 h2
  obtain ⟨z0, z1, m0, rfl, -, g0, g1⟩ := trod_struct2 Tryz.underlying24 h0
  simp only [Tryz.cells22, Tryz.cells3, List.drop, List.take] at g0 g1
  obtain ⟨u0, u1, u2, m1, rfl, -, k0, k1, k2⟩ := Deep.trod_struct3 Tryz.underlying27 h1
  simp only [Tryz.cells22, Tryz.cells25, List.drop, List.take] at k0 k1 k2
  obtain ⟨n0, e0, rfl, w0⟩ := DataW.trod_int Tryz.underlying22 g0
  obtain ⟨n1, e1, rfl, w1⟩ := DataW.trod_int Tryz.underlying3 g1
  obtain ⟨n2, e2, rfl, w2⟩ := DataW.trod_int Tryz.underlying22 k0
  obtain ⟨n3, e3, rfl, w3⟩ := DataW.trod_int Tryz.underlying22 k1
  obtain ⟨bs, v4, e4, hb, hk⟩ := bytes_of_trod k2
  obtain ⟨es, v5, e5, hE, hkE⟩ := ents_of_trod h2
  cases e0; cases e1; cases e2; cases e3; cases e4; cases e5
  obtain ⟨t0, t1⟩ := u64_wf w0
  obtain ⟨t2, t3⟩ := i64_wf w1
  obtain ⟨t4, t5⟩ := u64_wf w2
  obtain ⟨t6, t7⟩ := u64_wf w3
  obtain ⟨q0, rfl⟩ := Int.eq_ofNat_of_zero_le t0
  obtain ⟨q2, rfl⟩ := Int.eq_ofNat_of_zero_le t4
  obtain ⟨q3, rfl⟩ := Int.eq_ofNat_of_zero_le t6
  simp only [Prod.mk.injEq] at hx
  obtain ⟨rfl, -⟩ := hx
  refine ⟨⟨q0, n1, q2, q3, bs, es⟩, ⟨_, _, rfl, hb, hE, ⟨by simp; omega, by simpa using t2, by simpa using t3, by simp; omega, by simp; omega⟩⟩, ?_⟩
  simp only [Rows.uptoBulk, Rows.uptoBulkAll]
  omega
/-! ### what was there reads as it did -/
theorem slice_cells : (List.range 400).all (fun t => match Tryz.prog.underlying t with | some (.slice e) => decide (0 < Tryz.prog.cellsOf e) | _ => true) = true := by kernel_rfl
theorem types_few : Tryz.prog.types.size ≤ 400 := of_decide_eq_true (by kernel_rfl)
theorem laid_out : laidOutB Tryz.prog = true := by kernel_rfl
theorem maps_rowed : mapsRowed Tryz.prog = true := by kernel_rfl
theorem trod_ext {W' : World} {t : TypeId} {v : Value} {d : DataW H} {p : List MemPlace} (ht : t < Tryz.prog.types.size) (h : DataW.Trod enc Tryz.prog W 0 (fun _ => true) true t v d p) (hp : ∀ x ∈ p, x.block < W.heap.size) (hx : Ext W W') (sp : Nat → Bool) (hs : ∀ x ∈ p, sp x.block = true) :
    DataW.Trod enc Tryz.prog W' 0 sp true t v d p := by
  obtain ⟨n, hn⟩ := h
  refine ⟨n, DataW.trod_stays (kids_rows laid_out maps_rowed) ?_ (by intro h; cases h) ht hn (fun x hxp => ?_) hs⟩
  · intro t e ht hu
    have := List.all_eq_true.1 slice_cells t (List.mem_range.2 (Nat.lt_of_lt_of_le ht types_few))
    rw [hu] at this
    simpa using this
  · have hb := hp x hxp
    cases x with
    | cell b off => exact Below.cell (p := ⟨b, off, none⟩) hx hb
    | map b => exact hx.block b hb
theorem Ext.keptBut {W' : World} (h : Ext W W') (may : MemPlace → Prop) : W.keptBut W' may := by
  refine ⟨h.os, h.output, fun i hi => ?_⟩
  rw [h.block i hi]
  exact (World.keptBut_refl W may).2.2 i hi
end
end Go.Proofs.YtpjodgoljocnlaaGreatDoor
