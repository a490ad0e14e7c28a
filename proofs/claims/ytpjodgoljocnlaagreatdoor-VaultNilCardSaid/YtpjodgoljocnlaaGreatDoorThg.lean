/- vault.things: what makes one log out of another. -/
import Derived.Test.YtpjodgoljocnlaaGreatDoorNums
import Derived.Test.YtpjodgoljocnlaaGreatDoorSeq
namespace Go.Proofs.YtpjodgoljocnlaaGreatDoor
open Go Go.RowKit
variable {B e' : Nat}
def hardB (a b : Lg) : Bool := !(a.term == b.term && a.vote == b.vote)
def snapB (a b : Lg) : Bool := a.six != b.six || a.sterm != b.sterm || !decide (a.sdata = b.sdata)
/-- entries behind a snapshot -/
def behind (es : List Ent) (six : Nat) : List Ent :=
  match es.filter fun e => decide (six < e.index) with
  | [] => []
  | e :: r => if e.index = six + 1 then e :: r else []
def chgL (l t : Lg) : Lg := { l with six := t.six, sterm := t.sterm, sdata := t.sdata, ents := behind l.ents t.six }
def pre : List Ent → List Ent → Nat
  | x :: xs, y :: ys => if entB x y then pre xs ys + 1 else 0
  | _, _ => 0
def hardL (a b : Lg) : List (List UInt8) := if hardB a b then [numsB [3, b.term, b.vote.toNat]] else []
def snapL (a b : Lg) : List (List UInt8) := if snapB a b then [numsB [4, b.six, b.sterm] ++ textB b.sdata] else []
def frm (a b : Lg) : Lg := if snapB a b then chgL a b else a
def backL (xs ys : List Ent) : List (List UInt8) := match xs[pre xs ys]? with
  | some e => [numsB [5, e.index]]
  | none => []
def entR (e : Ent) : List UInt8 := numsB [6, e.term] ++ textB e.data
def thingsL (a b : Lg) (kind : Nat) : List (List UInt8) :=
  [numsB [kind]] ++ hardL a b ++ snapL a b ++ backL (frm a b).ents b.ents ++ (b.ents.drop (pre (frm a b).ents b.ents)).map entR ++ [numsB [7]]
/-- records of the call's own -/
def OwnRecs (B base : Nat) (w : World) (v : Value) (L : List (List UInt8)) : Prop := ∃ vs, w.ownsRow base 25 1 v L.length vs ∧ Each (RecR B) w vs L
theorem OwnRecs.ext {w w' : World} {base : Nat} {v : Value} {L : List (List UInt8)} (h : OwnRecs B base w v L) (hx : Ext w w') : OwnRecs B base w' v L := by
  obtain ⟨vs, h1, h2⟩ := h
  exact ⟨vs, own_ext h1 hx, h2.ext fun c x k => RecR.mut (T := []) hx.mut (by simp) c x k⟩
theorem own_one (w : World) (base : Nat) (v : Value) (hb : base ≤ w.heap.size) : (w.alloc (.cells #[v] 25)).ownsRow base 25 1 (.slice (some ⟨w.heap.size, 0, none⟩) 1 1) 1 [v] :=
  ⟨rfl, .inr ⟨w.heap.size, 1, #[v], rfl, hb, heap_alloc_new w _, Nat.le_refl _, by simp [maxLen], rfl, rfl⟩⟩
def LgC (l : Lg) (sd ev : Value) : Array Value := #[.int .u64 l.term, .int .i64 l.vote, .int .u64 l.six, .int .u64 l.sterm, sd, ev]
/-- a log in a box of its own -/
def LogBox (B : Nat) (w : World) (b : Nat) (l : Lg) : Prop := ∃ sd ev, Blk w b 30 (LgC l sd ev) ∧ IsBytes B w sd l.sdata ∧ IsEnts B w ev l.ents
theorem LogBox.ext {w w' : World} {b : Nat} {l : Lg} (h : LogBox B w b l) (hx : Ext w w') : LogBox B w' b l := by
  obtain ⟨sd, ev, h1, h2, h3⟩ := h
  exact ⟨sd, ev, h1.ext hx, h2.ext hx, h3.ext hx⟩
theorem nums_blk (w : World) (b : Nat) (l : List Nat) (h : Blk w b 22 (u64V l).toArray) (hl : ∀ x, x ∈ l → x < 18446744073709551616) (hk : l.length ≤ 100) :
    Calls Tryz.prog 96 #[.slice (some ⟨b, 0, none⟩) l.length l.length] w fun e w' => ∃ r, e = .returned r ∧ w'.ownsRow w.heap.size 5 1 r (numsB l).length (bytesV (numsB l)) ∧ Ext w w' :=
  f96_calls w b 0 l.length l (fun j x hj => by rw [Nat.zero_add, h.rules.1]; simpa using hj) hl hk (Nat.le_refl _) (by simp only [maxLen]; omega)
theorem Each.snoc {w : World} {vs : List Value} {L : List (List UInt8)} {v : Value} {r : List UInt8} (h : Each (RecR B) w vs L) (hv : IsBytes B w v r) : Each (RecR B) w (vs ++ [v]) (L ++ [r]) := h.append (Each.one ⟨v, rfl, hv⟩)
/-- an append of one record -/
theorem OwnRecs.grew {w w' : World} {base : Nat} {s s' x : Value} {vs : List Value} {L : List (List UInt8)} {r : List UInt8} (ho : w.ownsRow base 25 1 s L.length vs) (hE : Each (RecR B) w vs L) (hx : IsBytes B w x r) (hB : B ≤ base) (h' : w'.ownsRow base 25 1 s' (L.length + 1) (vs ++ [x])) (hg : Grew w w' s.ownBlock) : OwnRecs B base w' s' (L ++ [r]) := by
  have m : Mut B [25] w w' := Mut.grown Mut.rfl' ho hg (by simp) hB
  exact ⟨vs ++ [x], by rw [List.length_append, List.length_singleton]; exact h', (hE.ext fun c x k => RecR.mut m (by simp) c x k).snoc (hx.mut m (by simp))⟩
theorem wpl_cmp {P : Program} {w : World} {ops : Array Oper} {rest : List Oper} {o : Oper} {ac : Act} {Q : Exit → Act → World → Prop} (hgd : o.guard = none) (op : BinOp) (t t' : TypeId) (x y : Operand) (ho : o.op = .binOp op t x y t')
    (vx vy v : Value) (hx : ac.eval x = vx) (hy : ac.eval y = vy) (hg : (eqGuard op t x y vx vy).run P w = .ok () w) (hr : (binOp op t vx vy).run P w = .ok v w)
    (h : wpList P ops Q rest (ac.put o.dst v) w) : wpList P ops Q (o :: rest) ac w :=
  wpList_plain hgd fun _ hK => by
    unfold Oper.wp execOp
    simp only [ho, hx, hy, Sem.run_bind, Sem.run_pure, Result.andThen_ok, hg, hr]
    exact hK _ _ h
theorem run_slice0 (A : Option Addr) (n c : Nat) (W : World) : (Instr.slice 28 (.slice A n c) (some (.int .i64 0)) none none).run Tryz.prog W = .ok (.slice A n c) W := by
  obtain ⟨i, hi, -, hs, -⟩ := info_parts Tryz.info50
  have he : Tryz.prog.elem 28 = 50 := by simp [Program.elem, Tryz.underlying28]
  have h := run_slice_l (P := Tryz.prog) W 28 A n c (by rw [he]; exact Tryz.underlying28) .i64 0 (by omega) (by omega)
  rw [h, he]
  simp only [sizeOf, typeInfo, hi, hs, sliced]
  cases A <;> simp [Addr.add, hi]
theorem then_normal {K : Act → World → Prop} {Q : Exit → Act → World → Prop} {a : Act} {w : World} (h : K a w) : Exit.then K Q .normal a w := h
theorem block_normal {n : Nat} {Q : Exit → Act → World → Prop} {a : Act} {w : World} (h : Q .normal a w) : Exit.inBlock n Q .normal a w := h
/-- two texts, one behind the other -/
theorem cat2_calls (w : World) (V : Option Addr) (R : List UInt8) (n : Nat) (V' : Option Addr) (R' : List UInt8) (n' : Nat) (h : IsBytes B w (.slice V R.length n) R) (h' : IsBytes B w (.slice V' R'.length n') R') (hl : R.length + R'.length ≤ 1099511627776) (hB : B ≤ w.heap.size) :
    Calls Tryz.prog 98 #[.slice (some ⟨w.heap.size, 0, none⟩) 2 2] (w.alloc (.cells #[.slice V R.length n, .slice V' R'.length n'] 25)) fun e w' => ∃ r, e = .returned r ∧ w'.ownsRow (w.heap.size + 1) 5 1 r (R ++ R').length (bytesV (R ++ R')) ∧ Ext w w' := by
  have hx : Ext w (w.alloc (.cells #[.slice V R.length n, .slice V' R'.length n'] 25)) := Ext.rfl'.alloc _
  have hr := row_new (B := B) (e := 25) w [.slice V R.length n, .slice V' R'.length n']
  have hE : Each (RecR B) (w.alloc (.cells #[.slice V R.length n, .slice V' R'.length n'] 25)) [.slice V R.length n, .slice V' R'.length n'] [R, R'] :=
    ⟨[_], [_], rfl, ⟨_, rfl, h.ext hx⟩, [_], [], rfl, ⟨_, rfl, h'.ext hx⟩, rfl⟩
  have hfl : [R, R'].flatten = R ++ R' := by simp
  have C := f98_calls _ _ 2 _ _ hr hE (by rw [hfl, List.length_append, big_is]; omega) (by simp [big_is]) (by simp) (by simp [maxLen]) (Nat.le_trans hB hx.size)
  rw [hfl] at C
  refine Calls.mono C ?_
  rintro e w' ⟨r, h1, h2, h3⟩
  exact ⟨r, h1, by simpa using h2, hx.trans h3⟩
def firstL (k t v : Nat) (es : List Ent) : List (List UInt8) := [numsB [k], numsB [3, t, v]] ++ es.map entR ++ [numsB [7]]
set_option maxRecDepth 1000000 in
set_option maxHeartbeats 4000000 in
/-- where the term is another one, the snapshot is the same, and there was no entry -/
theorem f71_first (w : World) (u v : Value) (kind : Nat) (a b : Lg) (hu : IsLog B w u a) (hv : IsLog B w v b) (hk : kind ≤ 7) (hvo : 0 ≤ b.vote) (hB : B ≤ w.heap.size)
    (hb1 : b.sdata.length ≤ big) (hb2 : sumLen b.ents + 100 ≤ big) (hb3 : b.ents.length ≤ big) (h1 : ¬ a.term = b.term) (h2 : a.six = b.six) (h3 : a.sterm = b.sterm) (h4 : a.sdata = b.sdata) (h5 : a.ents = []) :
    Calls Tryz.prog 71 #[u, v, .int .u64 kind] w fun e w' => ∃ r, e = .returned r ∧ OwnRecs B w.heap.size w' r (thingsL a b kind) ∧ Ext w w' := by
  obtain ⟨t1, v1, s1, m1, x1, e1⟩ := a
  obtain ⟨t2, v2, s2, m2, x2, e2⟩ := b
  simp only at h1 h2 h3 h4 h5 hvo hb1 hb2 hb3
  subst h2 h3 h4 h5
  obtain ⟨vN, rfl⟩ := Int.eq_ofNat_of_zero_le hvo
  have hL : thingsL ⟨t1, v1, s1, m1, x1, []⟩ ⟨t2, vN, s1, m1, x1, e2⟩ kind = firstL kind t2 vN e2 := by
    simp [firstL, thingsL, hardL, hardB, h1, snapL, snapB, frm, backL, pre]
  rw [hL]
  obtain ⟨D, dc, E, ec, cs, rfl, ua1, ua2, ufit, ul1, ul2, ul3, ur, uE⟩ := hu.open_
  obtain ⟨D', dc', E', ec', cs', rfl, va1, va2, vfit, vl1, vl2, vl3, vr, vE⟩ := hv.open_
  have hvt : t2 < 18446744073709551616 := vfit.term
  have hvv : (vN : Int) < 9223372036854775808 := vfit.vhi
  simp only [List.length_nil] at ul1
  have HUA := Lib.hid ua1
  have HVA := Lib.hid va1
  have HVR := Lib.hid vr
  have HVE := Lib.hid vE
  clear hu hv ua1 ua2 ur uE va1 va2 vr vE ufit vfit hL hvo
  have hb2' : x1.length ≤ 1099511627776 := by rw [big_is] at hb1; exact hb1
  have hb3' : e2.length ≤ 1099511627776 := by rw [big_is] at hb3; exact hb3
  have HB2 := Lib.hid hb2
  clear hb1 hb2 hb3
  have hte : ((t1 : Int) == (t2 : Int)) = false := by simp; omega
  show Calls Tryz.prog 71 #[.agg #[.int .u64 t1, .int .i64 v1, .int .u64 s1, .int .u64 m1, .slice D x1.length dc, .slice E 0 ec], .agg #[.int .u64 t2, .int .i64 vN, .int .u64 s1, .int .u64 m1, .slice D' x1.length dc', .slice E' e2.length ec'], .int .u64 kind] w _
  go_enter Tryz.func71, Tryz.ntmps71
  go_wp2_with fail
  have kA : Blk (((w.alloc (.cells #[.int .u64 t1, .int .i64 v1, .int .u64 s1, .int .u64 m1, .slice D x1.length dc, .slice E 0 ec] 30)).alloc (.cells #[.int .u64 t2, .int .i64 vN, .int .u64 s1, .int .u64 m1, .slice D' x1.length dc', .slice E' e2.length ec'] 30)).alloc (.cells #[.int .u64 kind] 22)) w.heap.size 30 #[.int .u64 t1, .int .i64 v1, .int .u64 s1, .int .u64 m1, .slice D x1.length dc, .slice E 0 ec] := ((Blk.new w 30 _).alloc _).alloc _
  have kB : Blk (((w.alloc (.cells #[.int .u64 t1, .int .i64 v1, .int .u64 s1, .int .u64 m1, .slice D x1.length dc, .slice E 0 ec] 30)).alloc (.cells #[.int .u64 t2, .int .i64 vN, .int .u64 s1, .int .u64 m1, .slice D' x1.length dc', .slice E' e2.length ec'] 30)).alloc (.cells #[.int .u64 kind] 22)) (w.heap.size + 1) 30 #[.int .u64 t2, .int .i64 vN, .int .u64 s1, .int .u64 m1, .slice D' x1.length dc', .slice E' e2.length ec'] := by simpa using (Blk.new (w.alloc _) 30 _).alloc _
  have kC : Blk (((w.alloc (.cells #[.int .u64 t1, .int .i64 v1, .int .u64 s1, .int .u64 m1, .slice D x1.length dc, .slice E 0 ec] 30)).alloc (.cells #[.int .u64 t2, .int .i64 vN, .int .u64 s1, .int .u64 m1, .slice D' x1.length dc', .slice E' e2.length ec'] 30)).alloc (.cells #[.int .u64 kind] 22)) (w.heap.size + 1 + 1) 22 (u64V [kind]).toArray := by simpa [u64V] using Blk.new ((w.alloc _).alloc _) 22 _
  have hx3 : Ext w (((w.alloc (.cells #[.int .u64 t1, .int .i64 v1, .int .u64 s1, .int .u64 m1, .slice D x1.length dc, .slice E 0 ec] 30)).alloc (.cells #[.int .u64 t2, .int .i64 vN, .int .u64 s1, .int .u64 m1, .slice D' x1.length dc', .slice E' e2.length ec'] 30)).alloc (.cells #[.int .u64 kind] 22)) := ((Ext.rfl'.alloc _).alloc _).alloc _
  have hs3 : w.heap.size + 2 ≤ (((w.alloc (.cells #[.int .u64 t1, .int .i64 v1, .int .u64 s1, .int .u64 m1, .slice D x1.length dc, .slice E 0 ec] 30)).alloc (.cells #[.int .u64 t2, .int .i64 vN, .int .u64 s1, .int .u64 m1, .slice D' x1.length dc', .slice E' e2.length ec'] 30)).alloc (.cells #[.int .u64 kind] 22)).heap.size := by simp
  generalize ((w.alloc (.cells #[.int .u64 t1, .int .i64 v1, .int .u64 s1, .int .u64 m1, .slice D x1.length dc, .slice E 0 ec] 30)).alloc (.cells #[.int .u64 t2, .int .i64 vN, .int .u64 s1, .int .u64 m1, .slice D' x1.length dc', .slice E' e2.length ec'] 30)).alloc (.cells #[.int .u64 kind] 22) = w3 at *
  refine (nums_blk _ _ [kind] kC (by intro x hx; simp at hx; omega) (by simp)).mono ?_
  rintro e w1 ⟨r1, rfl, hown1, hx1⟩
  obtain ⟨R1, hR1⟩ : ∃ R, R = numsB [kind] := ⟨_, rfl⟩
  rw [← hR1] at hown1
  have HR1 := Lib.hid hR1
  clear hR1
  obtain ⟨V1, n1, rfl, -, -, -⟩ := own_form hown1
  obtain ⟨a1, a2, a3⟩ := (kA.ext hx1).rules
  obtain ⟨b1, b2, b3⟩ := (kB.ext hx1).rules
  have HO1 := Lib.hid (IsBytes.of_own (B := B) hown1)
  have HX1 := Lib.hid (hx3.trans hx1)
  have KA := Lib.hid (kA.ext hx1)
  have KB := Lib.hid (kB.ext hx1)
  have hs1 : w.heap.size + 2 ≤ w1.heap.size := Nat.le_trans hs3 hx1.size
  clear kA kB kC hx3 hown1 hx1 hs3
  have o1 := own_one w1 w.heap.size (.slice V1 R1.length n1) (by omega)
  go_wp2_with fail
  have e1 : Each (RecR B) (w1.alloc (.cells #[.slice V1 R1.length n1] 25)) [.slice V1 R1.length n1] [R1] := Each.one ⟨_, rfl, HO1.out.ext (Ext.rfl'.alloc _)⟩
  have kC : Blk ((w1.alloc (.cells #[.slice V1 R1.length n1] 25)).alloc (.cells #[.int .u64 3, .int .u64 t2, .int .u64 vN] 22)) (w1.heap.size + 1) 22 (u64V [3, t2, vN]).toArray := by simpa [u64V] using Blk.new (w1.alloc _) 22 _
  have hx2 : Ext w1 ((w1.alloc (.cells #[.slice V1 R1.length n1] 25)).alloc (.cells #[.int .u64 3, .int .u64 t2, .int .u64 vN] 22)) := (Ext.rfl'.alloc _).alloc _
  have o2 := own_ext o1 (Ext.rfl'.alloc (.cells #[.int .u64 3, .int .u64 t2, .int .u64 vN] 22))
  have e2' := e1.ext (R := RecR B) (w' := (w1.alloc (.cells #[.slice V1 R1.length n1] 25)).alloc (.cells #[.int .u64 3, .int .u64 t2, .int .u64 vN] 22)) fun c x k => RecR.mut (T := []) (Ext.rfl'.alloc _).mut (by simp) c x k
  clear o1 e1
  generalize (w1.alloc (.cells #[.slice V1 R1.length n1] 25)).alloc (.cells #[.int .u64 3, .int .u64 t2, .int .u64 vN] 22) = w2 at *
  refine (nums_blk _ _ [3, t2, vN] kC (by intro x hx; simp at hx; omega) (by simp)).mono ?_
  rintro e w4 ⟨r4, rfl, hown4, hx4⟩
  obtain ⟨R4, hR4⟩ : ∃ R, R = numsB [3, t2, vN] := ⟨_, rfl⟩
  rw [← hR4] at hown4
  have HR4 := Lib.hid hR4
  clear hR4
  obtain ⟨V4, n4, rfl, -, -, -⟩ := own_form hown4
  obtain ⟨a1, a2, a3⟩ := (KA.out.ext (hx2.trans hx4)).rules
  obtain ⟨b1, b2, b3⟩ := (KB.out.ext (hx2.trans hx4)).rules
  have o4 := own_ext o2 hx4
  have e4 := e2'.ext (R := RecR B) (w' := w4) fun c x k => RecR.mut (T := []) hx4.mut (by simp) c x k
  have O4 := Lib.hid o4
  have E4 := Lib.hid e4
  have N4 := Lib.hid (IsBytes.of_own (B := B) hown4)
  have X4 := Lib.hid (HX1.out.trans (hx2.trans hx4))
  have KA4 := Lib.hid (KA.out.ext (hx2.trans hx4))
  have KB4 := Lib.hid (KB.out.ext (hx2.trans hx4))
  have hs4 : w.heap.size + 2 ≤ w4.heap.size := Nat.le_trans hs1 (hx2.trans hx4).size
  obtain ⟨i1, hi1, hz1, hs1', hy1⟩ := info_parts Tryz.info25
  clear kC hx2 o2 e2' hown4 hx4 o4 e4 KA KB
  go_wp2_with (at_builtin; (refine wpl_append (B := B) (e' := 25) _ rfl (.tmp 22) (.tmp 32) 44 rfl w.heap.size 25 i1 _ 1 24 Tryz.underlying44 hi1 hz1 hs1' hy1 rfl (by omega) (.slice (some ⟨w1.heap.size, 0, none⟩) 1 1) 1 [.slice V1 R1.length n1] ?h1 ?o1 (some ⟨w4.heap.size, 0, none⟩) 1 1 [.slice V4 R4.length n4] ?h2 ?h3 ?o2 (by simp [Value.oneCell']) ?o3 ?o4 ?o5 ?o6))
  case h1 => kernel_rfl
  case h3 => rfl
  case h2 => kernel_rfl
  case o1 => exact own_ext O4.out (Ext.rfl'.alloc _)
  case o2 => exact row_new _ _
  case o3 => unfold maxLen; omega
  case o4 => omega
  case o5 => simp; omega
  case o6 =>
    intro v5 w5 hown5 hg5 ha5
    obtain ⟨V5, n5, rfl, -, -, -⟩ := own_form hown5
    have oA := own_ext O4.out (Ext.rfl'.alloc (.cells #[.slice V4 R4.length n4] 25))
    have eA := E4.out.ext (R := RecR B) (w' := w4.alloc (.cells #[.slice V4 R4.length n4] 25)) fun c x k => RecR.mut (T := []) (Ext.rfl'.alloc _).mut (by simp) c x k
    have r5 : OwnRecs B w.heap.size w5 (.slice V5 (1 + 1) n5) [R1, R4] := OwnRecs.grew (L := [R1]) oA eA (N4.out.ext (Ext.rfl'.alloc _)) hB hown5 hg5
    have x5 : Ext w w5 := (X4.out.alloc _).grown oA hg5 (Nat.le_refl _)
    have m5 : Mut B [25] w4 w5 := Mut.grown (Mut.rfl'.alloc _) oA hg5 (by simp) hB
    have KA5 := Lib.hid (KA4.out.mut m5 (by simp))
    have KB5 := Lib.hid (KB4.out.mut m5 (by simp))
    have R5 := Lib.hid r5
    have X5 := Lib.hid x5
    have hs5 : w.heap.size + 2 ≤ w5.heap.size := Nat.le_trans hs4 m5.size
    clear oA eA r5 x5 m5 hown5 hg5 ha5 a1 a2 a3 b1 b2 b3 O4 E4 KA4 KB4
    obtain ⟨a1, a2, a3⟩ := KA5.out.rules
    obtain ⟨b1, b2, b3⟩ := KB5.out.rules
    go_upto_region 4 with fail
    go_cut [8, 9] (fun s8 s9 wx => ∃ g8 g9 : Nat, s8 = .pointer (some ⟨g8, 0, none⟩) ∧ s9 = .pointer (some ⟨g9, 0, none⟩) ∧ Blk wx g8 27 #[.int .u64 s1, .int .u64 m1, .slice D x1.length dc] ∧ Blk wx g9 27 #[.int .u64 s1, .int .u64 m1, .slice D' x1.length dc'] ∧ Ext w5 wx)
    case first =>
      go_region_held3 (fun wq => wq.cell? ⟨w.heap.size, 2, none⟩ = some (.int .u64 s1) ∧ wq.cell? ⟨w.heap.size, 3, none⟩ = some (.int .u64 m1) ∧ wq.cell? ⟨w.heap.size, 4, none⟩ = some (.slice D x1.length dc) ∧ wq.cell? ⟨w.heap.size + 1, 2, none⟩ = some (.int .u64 s1) ∧ wq.cell? ⟨w.heap.size + 1, 3, none⟩ = some (.int .u64 m1) ∧ wq.cell? ⟨w.heap.size + 1, 4, none⟩ = some (.slice D' x1.length dc')) (go_keep) (fail)
      · refine then_normal ?_
        go_step
        go_meet
        exact ⟨w5.heap.size, w5.heap.size + 1, rfl, rfl, ((Blk.new w5 27 _).alloc _).drew, by simpa using (Blk.new (w5.alloc _) 27 _).drew, ((Ext.rfl'.alloc _).alloc _).drew⟩
      · refine then_normal ?_
        go_step
        go_meet
        exact ⟨w5.heap.size + 1, w5.heap.size, rfl, rfl, by simpa using (Blk.new (w5.alloc _) 27 _).drew, ((Blk.new w5 27 _).alloc _).drew, ((Ext.rfl'.alloc _).alloc _).drew⟩
    case rest =>
      obtain ⟨g8, g9, rfl, rfl, hg8, hg9, hx6⟩ := hcut
      obtain ⟨c1, c2, c3⟩ := hg8.rules
      obtain ⟨d1, d2, d3⟩ := hg9.rules
      have X6 := Lib.hid (X5.out.trans hx6)
      have R6 := Lib.hid (R5.out.ext hx6)
      have KA6 := KA5.out.ext hx6
      have KB6 := KB5.out.ext hx6
      clear a1 a2 a3 b1 b2 b3
      obtain ⟨a1, a2, a3⟩ := KA6.rules
      obtain ⟨b1, b2, b3⟩ := KB6.rules
      have C97 := f97_calls wc _ _ _ _ (HUA.out.ext X6.out) (HVA.out.ext X6.out)
      have hdx : decide (x1 = x1) = true := by simp
      rw [hdx] at C97
      have C97 := Lib.hid C97
      have K6 := Lib.hid (And.intro KA6 KB6)
      clear hg8 hg9 hx6 KA6 KB6 hdx
      go_upto_region 8 with (go_at_call 97; refine C97.out.mono ?_; rintro e w7 ⟨rfl, hx7⟩; have X7 := Lib.hid hx7; clear hx7 C97)
      have X67 := Lib.hid (X6.out.trans X7.out)
      have R7 := Lib.hid (R6.out.ext X7.out)
      have KA7 := K6.out.1.ext X7.out
      have KB7 := K6.out.2.ext X7.out
      clear a1 a2 a3 b1 b2 b3 c1 c2 c3 d1 d2 d3
      obtain ⟨a1, a2, a3⟩ := KA7.rules
      obtain ⟨b1, b2, b3⟩ := KB7.rules
      have hs7 : w.heap.size + 2 ≤ w7.heap.size := by omega
      clear KA7 KB7 K6
      go_wp2
      go_loopg [10] 0 (fun m nv wr => m = 0 ∧ nv = .int .i64 0 ∧ w7 = wr)
      case atStart => exact ⟨rfl, rfl, rfl⟩
      case round =>
        obtain ⟨hgk, rfl, rfl⟩ := hrel
        clear hgk
        go_wp2
        go_quiet (fail)
        have hsl := run_slice0 E' e2.length ec'
        have H7 := Lib.hid (And.intro (X67.out.drewN nq) (R7.out.ext (Ext.rfl'.drewN nq)))
        go_wp2
        go_loopg [7, 123] e2.length (fun m lv iv wr => ∃ k : Nat, k ≤ e2.length ∧ m = e2.length - k ∧ iv = .int .i64 k ∧ OwnRecs B w.heap.size wr lv ([R1, R4] ++ (e2.take k).map entR) ∧ Ext w wr)
        case atStart => exact ⟨0, Nat.zero_le _, by omega, rfl, by simpa using H7.out.2, H7.out.1⟩
        case round =>
          obtain ⟨k, hke, hgk, rfl, hown, hext⟩ := hrel
          have HG := Lib.hid hgk
          have HX := Lib.hid hext
          have HW := Lib.hid hown
          clear hgk hown hext
          by_cases hlt : k < e2.length
          · obtain ⟨bE, oE, dv, rfl, hbE, z0, z1, z2, zb, zt, zi⟩ := ent_at (HVR.out.ext HX.out) (HVE.out.ext fun _ _ h => h.ext HX.out) hlt
            obtain ⟨F, F', rfl, _⟩ := zb.form
            have hki : (k : Int) < e2.length := by omega
            have hdl := sumLen_mem hlt
            have HL := Lib.hid (show (e2.take (k + 1)).map entR = (e2.take k).map entR ++ [entR e2[k]] by rw [take_snoc hlt, List.map_append]; rfl)
            have hdb : e2[k].data.length + 100 ≤ 1099511627776 := by have := HB2.out; rw [big_is] at this; omega
            obtain ⟨en, hen⟩ : ∃ en, en = e2[k] := ⟨_, rfl⟩
            rw [← hen] at z0 z1 z2 zb zt zi HL hdb
            obtain ⟨vs, hvs, hEs⟩ := HW.out
            obtain ⟨L, hL⟩ : ∃ L, L = [R1, R4] ++ (e2.take k).map entR := ⟨_, rfl⟩
            rw [← hL] at hvs hEs
            have hLl : L.length ≤ k + 2 := by rw [hL]; simp; omega
            obtain ⟨V7, n7, rfl, -, -, -⟩ := own_form hvs
            have HLE := Lib.hid hL
            have HEN := Lib.hid hen
            have VS := Lib.hid hvs
            have ES := Lib.hid hEs
            have ZB := Lib.hid zb
            have HSL := Lib.hid hsl
            clear hen hL hvs hEs zb hdl hsl HW a1 a2 a3 b1 b2 b3
            go_wp2
            go_region_held3 (fun wq => wq.cell? ⟨wr.heap.size, 0, none⟩ = some (.int .u64 en.term) ∧ wq.cell? ⟨wr.heap.size, 2, none⟩ = some (.slice F en.data.length F')) (go_keep) (first | (go_at_call 96; refine (nums_blk _ _ [6, en.term] ?_ ?_ ?_).mono ?_; (exact (by simpa [u64V] using (Blk.new (wr.alloc (.cells #[.int .u64 en.term, .int .u64 en.index, .slice F en.data.length F'] 50)) 22 #[.int .u64 6, .int .u64 en.term]).drew)); (intro x hx; simp at hx; omega); (simp); rintro e wA ⟨rA, rfl, hownA, hxA⟩; obtain ⟨RA, hRA⟩ : ∃ R, R = numsB [6, en.term] := ⟨_, rfl⟩; rw [← hRA] at hownA; obtain ⟨VA, nA, rfl, -, -, -⟩ := own_form hownA; have hRAl : RA.length ≤ 20 := (by rw [hRA]; exact numsB_len (l := [6, en.term]) (by intro x hx; simp at hx; omega)); have HRA := Lib.hid hRA; have hxA' := (((Ext.rfl' (w := wr)).alloc (.cells #[.int .u64 en.term, .int .u64 en.index, .slice F en.data.length F'] 50)).alloc (.cells #[.int .u64 6, .int .u64 en.term] 22)).drew.trans hxA; obtain ⟨sa1, sa2, sa3⟩ := (((Blk.new wr 50 #[.int .u64 en.term, .int .u64 en.index, .slice F en.data.length F']).alloc (.cells #[.int .u64 6, .int .u64 en.term] 22)).drew.ext hxA).rules; have OA := Lib.hid (IsBytes.of_own (B := B) hownA); have XA := Lib.hid hxA'; have KE := Lib.hid (((Blk.new wr 50 #[.int .u64 en.term, .int .u64 en.index, .slice F en.data.length F']).alloc (.cells #[.int .u64 6, .int .u64 en.term] 22)).drew.ext hxA); have D99 := Lib.hid (f99_calls wA _ _ (ZB.out.ext hxA') (by rw [big_is]; omega)); clear hRA hownA hxA hxA') | (go_at_call 99; refine D99.out.mono ?_; rintro e wT ⟨rT, rfl, hownT, hxT⟩; obtain ⟨RT, hRT⟩ : ∃ R, R = textB en.data := ⟨_, rfl⟩; rw [← hRT] at hownT; obtain ⟨VT, nT, rfl, -, -, -⟩ := own_form hownT; have hRTl : RT.length ≤ 10 + en.data.length := (by rw [hRT]; unfold textB; rw [List.length_append]; have := numB_ten (v := en.data.length) (by omega); omega); have HRT := Lib.hid hRT; obtain ⟨st1, st2, st3⟩ := (KE.out.ext hxT).rules; have KT := Lib.hid (KE.out.ext hxT); have XT := Lib.hid (XA.out.trans hxT); have OA2 := Lib.hid (OA.out.ext hxT); have OT := Lib.hid (IsBytes.of_own (B := B) hownT); have D98 := Lib.hid (cat2_calls (B := B) wT VA RA nA VT RT nT (OA.out.ext hxT) (IsBytes.of_own hownT) (by omega) (by have := XT.out.size; have := HX.out.size; omega)); clear hRT hownT hxT sa1 sa2 sa3 D99) | (go_at_call 98; refine D98.out.mono ?_; rintro e wC ⟨rC, rfl, hownC, hxC⟩; obtain ⟨RC, hRC⟩ : ∃ R, R = RA ++ RT := ⟨_, rfl⟩; rw [← hRC] at hownC; obtain ⟨VC, nC, rfl, -, -, -⟩ := own_form hownC; have HRC := Lib.hid hRC; obtain ⟨sc1, sc2, sc3⟩ := (KT.out.ext hxC).rules; have KC := Lib.hid (KT.out.ext hxC); have XC := Lib.hid (XT.out.trans hxC); have OC := Lib.hid (IsBytes.of_own (B := B) hownC); have VSC := Lib.hid (own_ext VS.out (XT.out.trans hxC)); clear hRC hownC hxC st1 st2 st3 D98) | (refine step_append (o := ⟨some 138, _, _, _, _, _⟩) (B := B) (e' := 25) _ ?a1 (.tmp 127) (.tmp 137) 44 ?a2 w.heap.size 25 i1 _ 1 24 Tryz.underlying44 hi1 hz1 hs1' hy1 ?a3 ?a4 (.slice V7 L.length n7) L.length vs ?a5 ?a6 (some ⟨wC.heap.size, 0, none⟩) 1 1 [.slice VC RC.length nC] ?a7 ?a8 ?a9 ?b1 ?b2 ?b3 ?b4 ?b5; (case a1 => rfl); (case a2 => rfl); (case a3 => rfl); (case a4 => omega); (case a5 => kernel_rfl); (case a6 => exact own_ext VSC.out (Ext.rfl'.alloc _)); (case a7 => kernel_rfl); (case a8 => rfl); (case a9 => exact row_new _ _); (case b1 => simp [Value.oneCell']); (case b2 => unfold maxLen; omega); (case b3 => omega); (case b4 => have := XC.out.size; have := HX.out.size; simp; omega); intro v9 w9 hown9 hg9 ha9; obtain ⟨V9, n9, rfl, -, -, -⟩ := own_form hown9; have m9 : Mut B [25] wC w9 := Mut.grown (Mut.rfl'.alloc _) (own_ext VSC.out (Ext.rfl'.alloc (.cells #[.slice VC RC.length nC] 25))) hg9 (by simp) hB; obtain ⟨sd1, sd2, sd3⟩ := (KC.out.mut m9 (by simp)).rules; have M9 := Lib.hid m9; have O9 := Lib.hid hown9; have G9 := Lib.hid hg9; clear m9 hown9 hg9 ha9 sc1 sc2 sc3))
            refine block_normal ?_
            refine then_normal ?_
            go_step
            go_wp2_with fail
            go_roundg (e2.length - (k + 1))
            case measure => have := HG.out; omega
            case rel =>
              have oC := own_ext VSC.out (Ext.rfl'.alloc (.cells #[.slice VC RC.length nC] 25))
              have xC : Ext wr wC := XC.out
              have hg := G9.out
              refine ⟨k + 1, by omega, by omega, by congr 1, ?_, ?_⟩
              · have eC := ES.out.ext (R := RecR B) (w' := wC.alloc (.cells #[.slice VC RC.length nC] 25)) fun c x k => RecR.mut (T := []) (xC.trans (Ext.rfl'.alloc _)).mut (by simp) c x k
                have hn := OwnRecs.grew (L := L) (r := RC) oC eC (OC.out.ext (Ext.rfl'.alloc _)) hB O9.out hg
                have hRC : RC = entR en := by rw [HRC.out, HRA.out, HRT.out]; rfl
                have hfin : L ++ [RC] = [R1, R4] ++ (e2.take (k + 1)).map entR := by rw [HL.out, hRC, HLE.out, List.append_assoc]
                rw [← hfin]
                have hnl : (L ++ [RC]).length = L.length + 1 := by simp
                exact hn
              · exact ((HX.out.trans xC).alloc _).grown oC hg (Nat.le_refl _)
          · have hkk : k = e2.length := by omega
            subst hkk
            obtain ⟨vs, hvs, hEs⟩ := HW.out
            rw [List.take_of_length_le (Nat.le_refl _)] at hvs hEs
            obtain ⟨L, hL⟩ : ∃ L, L = [R1, R4] ++ e2.map entR := ⟨_, rfl⟩
            rw [← hL] at hvs hEs
            have hLl : L.length ≤ e2.length + 2 := by rw [hL]; simp
            obtain ⟨V7, n7, rfl, -, -, -⟩ := own_form hvs
            have HLE := Lib.hid hL
            have VS := Lib.hid hvs
            have ES := Lib.hid hEs
            clear hL hvs hEs hsl HW a1 a2 a3 b1 b2 b3
            go_wp2_with (first | (go_at_call 96; refine (nums_blk _ _ [7] (by simpa [u64V] using Blk.new wr 22 #[.int .u64 7]) (by intro x hx; simp at hx; omega) (by simp)).mono ?_; rintro e wC ⟨rC, rfl, hownC, hxC⟩; obtain ⟨RC, hRC⟩ : ∃ R, R = numsB [7] := ⟨_, rfl⟩; rw [← hRC] at hownC; obtain ⟨VC, nC, rfl, -, -, -⟩ := own_form hownC; have HRC := Lib.hid hRC; have XC := Lib.hid ((Ext.rfl'.alloc (.cells #[.int .u64 7] 22)).trans hxC); have OC := Lib.hid (IsBytes.of_own (B := B) hownC); have VSC := Lib.hid (own_ext VS.out XC.out); clear hRC hownC hxC) | (at_builtin; (refine wpl_append (B := B) (e' := 25) _ rfl (.tmp 140) (.tmp 143) 44 rfl w.heap.size 25 i1 _ 1 24 Tryz.underlying44 hi1 hz1 hs1' hy1 rfl (by omega) (.slice V7 L.length n7) L.length vs ?h1 (own_ext VSC.out (Ext.rfl'.alloc _)) (some ⟨wC.heap.size, 0, none⟩) 1 1 [.slice VC RC.length nC] ?h2 ?h3 (row_new _ _) (by simp [Value.oneCell']) (by unfold maxLen; omega) (by omega) (by have := XC.out.size; have := HX.out.size; simp; omega) ?o6; (case h1 => kernel_rfl); (case h2 => kernel_rfl); (case h3 => rfl); intro v9 w9 hown9 hg9 ha9; obtain ⟨V9, n9, rfl, -, -, -⟩ := own_form hown9; have O9 := Lib.hid hown9; have G9 := Lib.hid hg9; clear hown9 hg9 ha9)))
            go_ret
            have oC := own_ext VSC.out (Ext.rfl'.alloc (.cells #[.slice VC RC.length nC] 25))
            have xC : Ext wr wC := XC.out
            have eC := ES.out.ext (R := RecR B) (w' := wC.alloc (.cells #[.slice VC RC.length nC] 25)) fun c x k => RecR.mut (T := []) (xC.trans (Ext.rfl'.alloc _)).mut (by simp) c x k
            have hn := OwnRecs.grew (L := L) (r := RC) oC eC (OC.out.ext (Ext.rfl'.alloc _)) hB O9.out G9.out
            have hfin : L ++ [RC] = firstL kind t2 vN e2 := by rw [HRC.out, HLE.out, HR1.out, HR4.out]; rfl
            rw [hfin] at hn
            exact ⟨_, rfl, hn, ((HX.out.trans xC).alloc _).grown oC G9.out (Nat.le_refl _)⟩
end Go.Proofs.YtpjodgoljocnlaaGreatDoor
