/- wal.Append, at a disk that is up. -/
import Derived.Test.YtpjodgoljocnlaaGreatDoorRound
import Derived.Test.YtpjodgoljocnlaaGreatDoorChunk
import Derived.Test.YtpjodgoljocnlaaGreatDoorSync
import Derived.Lib.SlBuf
namespace Go.Proofs.YtpjodgoljocnlaaGreatDoor
open Go Go.RowKit Go.Shelf
attribute [local go_sem] Oper.semAt_some
variable {B e' : Nat}
def be3 (n : Nat) : List UInt8 := [UInt8.ofNat (n / 65536), UInt8.ofNat (n / 256), UInt8.ofNat n]
def outB (b : List UInt8) : List UInt8 := be3 b.length ++ b
theorem outB_length (b : List UInt8) : (outB b).length = b.length + 3 := by simp [outB, be3]
def partB (b : List UInt8) (k : Nat) : List UInt8 := ((outB b).drop (48 * k)).take 48
theorem partB_length (b : List UInt8) (k : Nat) : (partB b k).length = min 48 (b.length + 3 - 48 * k) := by simp [partB, outB_length]
def secB (turn : Nat) (p : List UInt8) : List UInt8 := be8 turn ++ p ++ List.replicate (48 - p.length) 0 ++ be8 turn
theorem secB_length {turn : Nat} {p : List UInt8} (h : p.length ≤ 48) : (secB turn p).length = 64 := by simp [secB, be8_length]; omega
def appD (d : Dk) (ring turn : Nat) : Nat → List (List UInt8) → Dk
  | _, [] => d
  | i, p :: ps => appD (writeDk d (2 + i) (secB turn p)) ring turn ((i + 1) % ring) ps
theorem appD_snoc (ring turn : Nat) (p : List UInt8) : ∀ (ps : List (List UInt8)) (d : Dk) (i : Nat), i < ring → appD d ring turn i (ps ++ [p]) = writeDk (appD d ring turn i ps) (2 + (i + ps.length) % ring) (secB turn p)
  | [], d, i, hi => by simp [appD, Nat.mod_eq_of_lt hi]
  | q :: ps, d, i, hi => by
    simp only [List.cons_append, appD]
    rw [appD_snoc ring turn p ps _ _ (Nat.mod_lt _ (by omega))]
    congr 2
    rw [List.length_cons, Nat.mod_add_mod]
    congr 1
    omega
def partsB (b : List UInt8) : List (List UInt8) := (List.range (secs b.length)).map (partB b)
def appG (g : Wg) (b : List UInt8) : Wg := { tookG { g with d := appD g.d g.ring g.turn g.fin (partsB b) } b with waits := true }
theorem appD_kept (ring turn : Nat) : ∀ (ps : List (List UInt8)) (d : Dk) (i : Nat), (appD d ring turn i ps).kept = d.kept ∧ (appD d ring turn i ps).down = d.down ∧ (appD d ring turn i ps).armed = d.armed ∧ (appD d ring turn i ps).wait.length = d.wait.length + ps.length
  | [], d, i => by simp [appD]
  | q :: ps, d, i => by
    simp only [appD]
    obtain ⟨h1, h2, h3, h4⟩ := appD_kept ring turn ps (writeDk d (2 + i) (secB turn q)) ((i + 1) % ring)
    exact ⟨h1, h2, h3, by rw [h4]; simp [writeDk]; omega⟩
theorem be3V (n : Nat) : bytesV (be3 n) = [.int .u8 ((n : Int) / 65536 % 256), .int .u8 ((n : Int) / 256 % 256), .int .u8 ((n : Int) % 256)] := by
  simp [bytesV, be3]
theorem IsBytes.ofBlk {w : World} {b n : Nat} {bs : List UInt8} (h : Blk w b 5 (bytesV bs).toArray) (hl : bs.length = n) (hn : n ≤ maxLen) : IsBytes B w (.slice (some ⟨b, 0, none⟩) n n) bs := by
  refine ⟨some ⟨b, 0, none⟩, n, by rw [hl], by omega, hn, by simp, fun _ => ⟨b, 0, rfl, .inr ⟨_, _, h⟩, fun i v hi => ?_⟩⟩
  rw [h.rules.1]; simpa using hi
theorem be3V' {n : Nat} (h : n ≤ 32768) : bytesV (be3 n) = [.int .u8 ((n : Int) / 65536), .int .u8 ((n : Int) / 256), .int .u8 ((n : Int) % 256)] := by
  rw [be3V, show (n : Int) / 65536 % 256 = n / 65536 by omega, show (n : Int) / 256 % 256 = n / 256 by omega]
theorem sec_lay (turn : Nat) {q : List UInt8} (h : q.length ≤ 48) :
    spl (spl (spl (List.replicate 64 (Value.int .u8 0)) 0 (bytesV (be8 turn))) 8 (bytesV q)) 56 (bytesV (be8 turn)) = bytesV (secB turn q) := by
  have hz : List.replicate 64 (Value.int .u8 0) = [] ++ z8 ++ (List.replicate q.length (.int .u8 0) ++ (List.replicate (48 - q.length) (.int .u8 0) ++ z8)) := by
    simp only [z8, List.nil_append, List.replicate_append_replicate]
    congr 1; omega
  have l1 : z8.length = 8 := by simp [z8]
  have e := be8V_length
  have s1 := spl_mid [] z8 (List.replicate q.length (.int .u8 0) ++ (List.replicate (48 - q.length) (.int .u8 0) ++ z8)) (bytesV (be8 turn)) (by rw [l1, e])
  have s2 := spl_mid (bytesV (be8 turn)) (List.replicate q.length (.int .u8 0)) (List.replicate (48 - q.length) (.int .u8 0) ++ z8) (bytesV q) (by simp)
  have s3 := spl_mid (bytesV (be8 turn) ++ bytesV q ++ List.replicate (48 - q.length) (.int .u8 0)) z8 [] (bytesV (be8 turn)) (by rw [l1, e])
  have h56 : 8 + (q.length + (48 - q.length)) = 56 := by omega
  simp only [List.length_append, e, List.length_nil, List.length_replicate, List.append_nil, List.nil_append, List.append_assoc, bytesV_length, h56] at s1 s2 s3 hz
  rw [hz, s1, s2, s3]
  simp [secB, bytesV]
theorem part_copy {W w8 : World} (b : List UInt8) (x bo s : Nat) (l : List Value) (oc : Array Value) (hb : Blk w8 s 5 l.toArray) (hl : l.length = 64) (hx : Ext W w8) (hs : W.heap.size ≤ s) (ob : Blk W bo 5 oc) (oh : ∀ (j : Nat) v, (bytesV (outB b))[j]? = some v → oc[j]? = some v) :
    ∃ w9, (Builtin.copy_ #[25, 25] 3 #[.slice (some ⟨s, 8, none⟩) 56 56, chV bo (b.length + 3) x]).run Tryz.prog w8 = .ok (goInt (partB b x).length) w9 ∧ Blk w9 s 5 (spl l 8 (bytesV (partB b x))).toArray ∧ Ext W w9 := by
  have hpl := partB_length b x
  obtain ⟨i0, hi0, hz0, hs0, hb0⟩ := info_parts Tryz.info5
  have hq := ob.ext hx
  have hr := run_copy_row (P := Tryz.prog) w8 25 25 3 5 s 8 56 56 ⟨bo, 48 * x, none⟩ (min 48 (b.length + 3 - 48 * x)) (min 48 (b.length + 3 - 48 * x)) l.toArray 5 (bytesV (partB b x)) Tryz.underlying25 (by rw [hi0]; simp [hs0]) hb
    (by rw [bytesV_length, hpl]; simp only [Nat.min_def]; split <;> split <;> omega)
    (fun j v hj => by
      rw [Addr.add_lit, hq.rules.1]
      refine oh _ v ?_
      unfold partB at hj
      simp only [bytesV, List.map_take, List.map_drop, List.getElem?_take, List.getElem?_drop] at hj ⊢
      split at hj
      · exact hj
      · cases hj)
    (by rw [bytesV_length, hpl]; simp; omega) (bytesV_one _)
  rw [bytesV_length] at hr
  refine ⟨_, hr, ?_, hx.row hs _⟩
  have := hb.row (spl l 8 (bytesV (partB b x))).toArray
  simpa [spl] using this
theorem LogAt.far {w : World} {p dp ab : Nat} {g : Wg} {pv : Value} {u0 : Value} (h : LogAt B w p dp g) (h5 : w.cell? ⟨p, 5, none⟩ = some pv) (hne : pv.ownBlock ≠ some ab) (hab : Blk w ab 3 #[u0]) (hB : B ≤ ab) (u : Value) : LogAt B (w.setCell ⟨ab, 0, none⟩ u) p dp g := by
  obtain ⟨rv, vs, pv', b1, b2, b3, b4, b5, b6⟩ := h.form
  have e : pv' = pv := by
    have := b1.rules.1 5
    rw [h5] at this
    simp [WgCells] at this
    exact this.symm
  subst e
  have m : Mut B [3] w (w.setCell ⟨ab, 0, none⟩ u) := (Mut.rfl' (w := w)).put hab (by simp) hB 0 none u
  exact ⟨rv, vs, pv', b1.mut m (by simp), b2, b3.mut m (by simp) (by simp) (by simp), b4.mut m (by simp) (by simp), own_set b5 hne u, b6⟩
set_option maxRecDepth 100000 in
set_option maxHeartbeats 1000000 in
theorem f61_blk (w : World) (p dp : Nat) (g : Wg) (h : LogAt B w p dp g) :
    Calls Tryz.prog 61 #[.pointer (some ⟨p, 0, none⟩), .int .i64 0] w fun e w' => e = .returned (.int .i64 0) ∧ LogAt B w' p dp g ∧ Mut B [97] w w' ∧ RecFar p w w' ∧ w'.cell? ⟨p, 5, none⟩ = w.cell? ⟨p, 5, none⟩ := by
  obtain ⟨rv, vs, pv, b1, b2, b3, b4, b5, b6⟩ := h.form
  obtain ⟨r1, r2, r3⟩ := b1.rules
  have B1 := Lib.hid b1
  have B3 := Lib.hid b3
  have B4 := Lib.hid b4
  have B5 := Lib.hid b5
  have B6 := Lib.hid b6
  clear h b1 b3 b4 b5 b6
  unfold WgCells at r1
  have hd : ∃ x, g.dead = x := ⟨_, rfl⟩
  obtain ⟨x, hx⟩ := hd
  rw [hx] at r1
  have HX := Lib.hid hx
  clear hx
  have key : LogAt B (w.setCell ⟨p, 1, none⟩ (.bool x)) p dp g ∧ Mut B [97] w (w.setCell ⟨p, 1, none⟩ (.bool x)) ∧ RecFar p w (w.setCell ⟨p, 1, none⟩ (.bool x)) ∧ (w.setCell ⟨p, 1, none⟩ (.bool x)).cell? ⟨p, 5, none⟩ = w.cell? ⟨p, 5, none⟩ := by
    have m : Mut B [97] w (w.setCell ⟨p, 1, none⟩ (.bool x)) := (Mut.rfl' (w := w)).put B1.out (by simp) b2 1 none (.bool x)
    have hb := B1.out.set_ 1 (.bool x)
    have e1 : (WgCells dp g rv pv).setIfInBounds 1 (.bool x) = WgCells dp g rv pv := by rw [← HX.out]; rfl
    rw [e1] at hb
    exact ⟨⟨rv, vs, pv, hb, b2, B3.out.mut m (by simp) (by simp) (by simp), B4.out.mut m (by simp) (by simp), own_mut B5.out m (by simp), B6.out⟩, m, RecFar.put B1.out (by omega) _, by rw [hb.rules.1, B1.out.rules.1]⟩
  have K := Lib.hid key
  clear key
  cases x <;> (
    go_enter Tryz.func61, Tryz.ntmps61
    go_wp2_with (go_at_call 92; refine (f92_errno _ _ _).mono ?_; rintro e w' ⟨rfl, rfl⟩)
    go_ret
    exact ⟨rfl, K.out⟩)
theorem _root_.Go.Proofs.YtpjodgoljocnlaaGreatDoor.Mut.trans' {T T' : List Nat} {a c d : World} (h : Mut B T a c) (k : Mut B T' c d) : KeepsOthers a d := h.keeps.trans k.keeps
structure AppI (B p dp : Nat) (g : Wg) (b : List UInt8) (w : World) (lb rb ab bo vc : Nat) (pv : Value) (pre : List Nat) (W : World) : Prop where
  log : LogAt B W p dp { g with d := appD g.d g.ring g.turn g.fin (pre.map (partB b)) }
  lbox : Blk W lb 69 #[.pointer (some ⟨p, 0, none⟩)]
  rbox : Blk W rb 40 #[.int .i64 0]
  abox : Blk W ab 3 #[.int .i64 (((g.fin + pre.length) % g.ring : Nat) : Int)]
  out : ∃ cur, Blk W bo 5 cur ∧ ∀ (j : Nat) v, (bytesV (outB b))[j]? = some v → cur[j]? = some v
  sbx : Blk W (ab + 1) 25 #[.slice (some ⟨bo, 0, none⟩) (b.length + 3) vc]
  nbx : Blk W (ab + 1 + 1) 3 #[.int .i64 48]
  pl : W.cell? ⟨p, 5, none⟩ = some pv
  mu : Mut B [91, 95, 97] w W
  far : RecFar p w W
theorem AppI.turn {p dp : Nat} {g : Wg} {b : List UInt8} {w : World} {lb rb ab bo vc : Nat} {pv : Value} {pre : List Nat} {W W' : World} {row : Option Nat} (h : AppI B p dp g b w lb rb ab bo vc pv pre W) (hg : W.grownBy W' row) (hr : ∀ r, row = some r → w.heap.size ≤ r ∧ ∃ o : Obj, W.heap[r]? = some o ∧ o.isCells = false) : AppI B p dp g b w lb rb ab bo vc pv pre W' := by
  have hc := Cells.of hg fun r e => (hr r e).2
  obtain ⟨cur, h1, h2⟩ := h.out
  obtain ⟨rv, vs, pv', b1, -⟩ := h.log.form
  exact ⟨hc.log h.log, hc.blk h.lbox, hc.blk h.rbox, hc.blk h.abox, ⟨cur, hc.blk h1, h2⟩, hc.blk h.sbx, hc.blk h.nbx, hc.cell h.pl, h.mu.turn hg hr, h.far.turn (by rw [b1.rules.1]; rfl) h.mu.size hg hr⟩
theorem KeepB.put {b1 b2 : Nat} {n : Nat} (h1 : b1 < n) (h2 : b2 < n) (W : World) (l : Nat) (o o' : Obj) (hl : n ≤ l) (_ : W.heap[l]? = some o) (_ : o.isCells = false) (_ : o.isWalk = false) : KeepB b1 b2 W (W.putObj l o') :=
  ⟨World.putObj_heap_other (by omega), World.putObj_heap_other (by omega)⟩
set_option maxRecDepth 100000 in
set_option maxHeartbeats 4000000 in
theorem f73_calls (w : World) (p dp : Nat) (g : Wg) (v : Value) (b : List UInt8) (h : LogAt B w p dp g) (hv : IsBytes B w v b) (hc : Calm g.d) (hd : g.dead = false) (hb : b.length ≤ 32768) (hn : g.first + g.recs.length < huge) (hu : g.used + secs b.length ≤ g.ring) (hw : g.d.wait.length + secs b.length ≤ 1048576) (hB : B ≤ w.heap.size) :
    Calls Tryz.prog 73 #[.pointer (some ⟨p, 0, none⟩), v] w fun e w' => e = .returned (.int .i64 0) ∧ LogAt B w' p dp (appG g b) ∧ Mut B [91, 95, 97, 25, 3] w w' ∧ RecFar p w w' := by
  obtain ⟨rv, vs, pv, b1, b2, b3, b4, b5, b6⟩ := h.form
  obtain ⟨A, c, rfl, q1, q2, q3, q4⟩ := hv.form
  obtain ⟨r1, r2, r3⟩ := b1.rules
  have hpb : ∀ k, pv.ownBlock = some k → k < w.heap.size := fun k hk => (b5.lt k hk).2
  have hln := h.len
  have hus := b6.used
  have hfi := b6.fin
  have hring : g.ring = g.d.kept.length - 2 := rfl
  have hnx := b6.next
  unfold maxLen at q2
  unfold WgCells at r1
  have c57 := fun W (hx : Ext w W) => f57_calls W p dp g (h.ext hx) hd hc.up
  have c70 := fun W (hx : Ext w W) => f70_calls W p dp g (h.ext hx)
  have c58 := fun W => f58_calls W b.length (by rw [big_is]; omega)
  have C57 := Lib.hid c57
  have C70 := Lib.hid c70
  have C58 := Lib.hid c58
  have HL := Lib.hid h
  have HV := Lib.hid hv
  have HC := Lib.hid hc
  have B1 := Lib.hid b1
  have B6 := Lib.hid b6
  have HRING := Lib.hid hring
  have hbI : ¬ (32768 : Int) < b.length := by omega
  have huI : decide ((g.ring : Int) < (g.used : Int) + (secs b.length : Int)) = false := decide_eq_false (by omega)
  have hwr : IntKind.i64.wrap ((g.used : Int) + (secs b.length : Int)) = (g.used : Int) + (secs b.length : Int) := IntWalk.i64_in _ ⟨by omega, by omega⟩
  clear h hv hc b1 b3 b4 b5 b6 q4 c57 c70 c58 hd hring
  refine (callsIn_wide (n := 5)).1 ?_
  refine callsIn_of_wp_marks Tryz.func73 rfl trivial ?_ rfl
  refine wpIn_wide.2 ?_
  simp only [Tryz.ntmps73, List.size_toArray, List.length_cons, List.length_nil, Nat.reduceAdd, Nat.reduceSub, Array.replicate_succ, Array.replicate_zero, List.push_toArray, List.append_toArray, List.nil_append, List.cons_append]
  go_wp2_with (go_at_call 57; refine (C57.out _ ?_).mono ?_; (repeat (first | exact Ext.rfl' | refine Ext.alloc ?_ _)); (rintro e w' ⟨rfl, rfl⟩))
  refine wp_region_reads (by kernel_rfl) (by kernel_rfl) ?_
  repeat (first | still_call ((C58.out _).mono fun e w' h => ⟨h.1, h.2.symm⟩) | still_call ((C70.out _ (by repeat (first | exact Ext.rfl' | refine Ext.drew ?_ | refine Ext.alloc ?_ _))).mono fun e w' h => ⟨h.1, h.2.symm⟩) | still_step)
  refine wpStill_nil ?_
  go_wp2_with fail
  have x3 : Ext w (((w.alloc (Obj.cells #[Value.pointer (some ⟨p, 0, none⟩)] 69)).alloc (Obj.cells #[Value.int IntKind.i64 0] 40)).alloc (Obj.cells #[Value.int IntKind.u8 (↑b.length / 65536), Value.int IntKind.u8 (↑b.length / 256), Value.int IntKind.u8 (↑b.length % 256)] 5)) := ((Ext.rfl'.alloc _).alloc _).alloc _
  have k1 : Blk (((w.alloc (Obj.cells #[Value.pointer (some ⟨p, 0, none⟩)] 69)).alloc (Obj.cells #[Value.int IntKind.i64 0] 40)).alloc (Obj.cells #[Value.int IntKind.u8 (↑b.length / 65536), Value.int IntKind.u8 (↑b.length / 256), Value.int IntKind.u8 (↑b.length % 256)] 5)) w.heap.size 69 #[.pointer (some ⟨p, 0, none⟩)] := ((Blk.new w 69 _).alloc _).alloc _
  have k2 : Blk (((w.alloc (Obj.cells #[Value.pointer (some ⟨p, 0, none⟩)] 69)).alloc (Obj.cells #[Value.int IntKind.i64 0] 40)).alloc (Obj.cells #[Value.int IntKind.u8 (↑b.length / 65536), Value.int IntKind.u8 (↑b.length / 256), Value.int IntKind.u8 (↑b.length % 256)] 5)) (w.heap.size + 1) 40 #[.int .i64 0] := by simpa using (Blk.new (w.alloc _) 40 _).alloc _
  have k3 : Blk (((w.alloc (Obj.cells #[Value.pointer (some ⟨p, 0, none⟩)] 69)).alloc (Obj.cells #[Value.int IntKind.i64 0] 40)).alloc (Obj.cells #[Value.int IntKind.u8 (↑b.length / 65536), Value.int IntKind.u8 (↑b.length / 256), Value.int IntKind.u8 (↑b.length % 256)] 5)) (w.heap.size + 2) 5 (bytesV (be3 b.length)).toArray := by rw [be3V' hb]; simpa using Blk.new ((w.alloc _).alloc _) 5 _
  have hs3 : (((w.alloc (Obj.cells #[Value.pointer (some ⟨p, 0, none⟩)] 69)).alloc (Obj.cells #[Value.int IntKind.i64 0] 40)).alloc (Obj.cells #[Value.int IntKind.u8 (↑b.length / 65536), Value.int IntKind.u8 (↑b.length / 256), Value.int IntKind.u8 (↑b.length % 256)] 5)).heap.size = w.heap.size + 3 := by simp
  generalize hw3 : (((w.alloc (Obj.cells #[Value.pointer (some ⟨p, 0, none⟩)] 69)).alloc (Obj.cells #[Value.int IntKind.i64 0] 40)).alloc (Obj.cells #[Value.int IntKind.u8 (↑b.length / 65536), Value.int IntKind.u8 (↑b.length / 256), Value.int IntKind.u8 (↑b.length % 256)] 5)) = w3 at *
  have e1 : w.heap.size + 1 + 1 = w.heap.size + 2 := rfl
  have e2 : w.heap.size + 1 + 1 + 1 = w.heap.size + 3 := rfl
  rw [e1, e2]
  rw [e1, e2] at *
  have hr := (row_new (B := B) (e := 25) w3 [.slice (some ⟨w.heap.size + 2, 0, none⟩) 3 3, .slice A b.length c]).ext Ext.rfl'.drew
  rw [hs3] at hr
  have x4 : Ext w3 (w3.alloc (Obj.cells #[Value.slice (some ⟨w.heap.size + 2, 0, none⟩) 3 3, Value.slice A b.length c] 25)).drew := (Ext.rfl'.alloc _).drew
  have hbe := IsBytes.ofBlk (B := B) (n := 3) (k3.ext x4) (by simp [be3]) (by simp [maxLen])
  have hE : Each (RecR B) (w3.alloc (Obj.cells #[Value.slice (some ⟨w.heap.size + 2, 0, none⟩) 3 3, Value.slice A b.length c] 25)).drew [.slice (some ⟨w.heap.size + 2, 0, none⟩) 3 3, .slice A b.length c] [be3 b.length, b] :=
    ⟨[_], [_], rfl, ⟨_, rfl, hbe⟩, [_], [], rfl, ⟨_, rfl, HV.out.ext (x3.trans x4)⟩, rfl⟩
  have hfl : [be3 b.length, b].flatten = outB b := by simp [outB]
  have C98 := f98_calls _ _ 2 _ _ hr hE (by rw [hfl, outB_length, big_is]; omega) (by simp [big_is]) (by simp) (by simp [maxLen]) (Nat.le_trans hB (x3.trans x4).size)
  rw [hfl, outB_length, show [be3 b.length, b].length = 2 from rfl] at C98
  have C98 := Lib.hid C98
  have K1 := Lib.hid (k1.ext x4)
  have K2 := Lib.hid (k2.ext x4)
  have X4 := Lib.hid (x3.trans x4)
  clear hr x4 hbe hE hfl k1 k2 k3 x3 hw3 e1 e2
  generalize (w3.alloc (Obj.cells #[Value.slice (some ⟨w.heap.size + 2, 0, none⟩) 3 3, Value.slice A b.length c] 25)).drew = w4 at *
  refine C98.out.mono ?_
  rintro e w5 ⟨vo, rfl, own5, hx5⟩
  obtain ⟨V, vc, rfl, hvc, hvm, -⟩ := own_form own5
  unfold maxLen at hvm
  obtain ⟨bo, cur, rfl, hbo, hblo, hcur⟩ := own_blk own5 (by omega)
  have K1' := K1.out.ext hx5
  have K2' := Lib.hid (K2.out.ext hx5)
  have P5 := B1.out.ext (X4.out.trans hx5)
  obtain ⟨y1, y2, y3⟩ := P5.rules
  unfold WgCells at y1
  obtain ⟨z1, z2, z3⟩ := K1'.rules
  have K5 := Lib.hid K1'
  have X5 := Lib.hid (X4.out.trans hx5)
  have O5 := Lib.hid own5
  have HB5 := Lib.hid hblo
  have HCUR := Lib.hid hcur
  clear own5 hx5 hblo hcur P5 K1' r1 r2 r3 C98
  go_wp2_with (go_at_call 100; refine (f100_calls _ _ _ _).mono ?_; rintro e w6 ⟨rfl, rfl⟩)
  have q1 : Blk (((w5.alloc (Obj.cells #[Value.int IntKind.i64 ↑g.fin] 3)).alloc (Obj.cells #[Value.slice (some ⟨bo, 0, none⟩) (b.length + 3) vc] 25)).alloc (Obj.cells #[Value.int IntKind.i64 48] 3)) w5.heap.size 3 #[.int .i64 g.fin] := ((Blk.new w5 3 _).alloc _).alloc _
  have q2 : Blk (((w5.alloc (Obj.cells #[Value.int IntKind.i64 ↑g.fin] 3)).alloc (Obj.cells #[Value.slice (some ⟨bo, 0, none⟩) (b.length + 3) vc] 25)).alloc (Obj.cells #[Value.int IntKind.i64 48] 3)) (w5.heap.size + 1) 25 #[.slice (some ⟨bo, 0, none⟩) (b.length + 3) vc] := by simpa using (Blk.new (w5.alloc _) 25 _).alloc _
  have q3 : Blk (((w5.alloc (Obj.cells #[Value.int IntKind.i64 ↑g.fin] 3)).alloc (Obj.cells #[Value.slice (some ⟨bo, 0, none⟩) (b.length + 3) vc] 25)).alloc (Obj.cells #[Value.int IntKind.i64 48] 3)) (w5.heap.size + 1 + 1) 3 #[.int .i64 48] := by simpa using Blk.new ((w5.alloc _).alloc _) 3 _
  have x7 : Ext w5 (((w5.alloc (Obj.cells #[Value.int IntKind.i64 ↑g.fin] 3)).alloc (Obj.cells #[Value.slice (some ⟨bo, 0, none⟩) (b.length + 3) vc] 25)).alloc (Obj.cells #[Value.int IntKind.i64 48] 3)) := ((Ext.rfl'.alloc _).alloc _).alloc _
  have s7 : (((w5.alloc (Obj.cells #[Value.int IntKind.i64 ↑g.fin] 3)).alloc (Obj.cells #[Value.slice (some ⟨bo, 0, none⟩) (b.length + 3) vc] 25)).alloc (Obj.cells #[Value.int IntKind.i64 48] 3)).heap.size = w5.heap.size + 1 + 1 + 1 := by simp
  generalize hW7 : (((w5.alloc (Obj.cells #[Value.int IntKind.i64 ↑g.fin] 3)).alloc (Obj.cells #[Value.slice (some ⟨bo, 0, none⟩) (b.length + 3) vc] 25)).alloc (Obj.cells #[Value.int IntKind.i64 48] 3)) = w7 at *
  have hnum : chN (b.length + 3) = secs b.length := by unfold chN secs; rfl
  have hinv0 : AppI B p dp g b w w.heap.size (w.heap.size + 1) w5.heap.size bo vc pv [] w7 := by
    have hx := X5.out.trans x7
    refine ⟨?_, K5.out.ext x7, K2'.out.ext x7, ?_, ⟨cur, HB5.out.ext x7, HCUR.out⟩, q2, q3, by rw [(B1.out.ext hx).rules.1]; rfl, hx.mut, RecFar.of_mut (B := B) (T := []) hx.mut B1.out (by simp) (by simp)⟩
    · simpa [appD] using HL.out.ext hx
    · simpa [Nat.mod_eq_of_lt hfi] using q1
  have hwh := X5.out.size
  have HPB := Lib.hid hpb
  obtain ⟨i0, hi0, hz0, hs0, hb0⟩ := info_parts Tryz.info5
  have hmk : ∀ W, (Instr.makeSlice 25 (.int .i64 64) (.int .i64 64)).run Tryz.prog W = .ok (.slice (some ⟨W.heap.size, 0, none⟩) 64 64) (W.alloc (.cells zc64 5)) := fun W => by
    rw [← zc64_made]
    have := run_make_rowN (P := Tryz.prog) 25 5 i0 _ Tryz.underlying25 hi0 hz0 .i64 .i64 64 64 (Nat.le_refl _) (by rw [hb0]; omega) (by omega) W
    rw [hs0] at this
    exact this
  refine (wpIn_wide (n := 5)).1 ?_
  refine' wpIn_rangeFunc_ownG rfl (by omega) (gf := 108) (lb := #[.pointer (some ⟨w5.heap.size + 1, 0, none⟩), .pointer (some ⟨w5.heap.size + 1 + 1, 0, none⟩)]) rfl trivial (enters_of Tryz.func108 (by kernel_rfl) rfl)
    (f108_stops Fence.wide 4 trivial rfl (by omega) (w5.heap.size + 1) (w5.heap.size + 1 + 1) bo (b.length + 3) vc hvc (by omega) (by omega) w7 q2 q3) (fun h k => KeepB.trans h k) (KeepB.put (n := w7.heap.size) (by omega) (by omega)) (Below.refl _ _) (fun _ => rfl)
    (AppI B p dp g b w w.heap.size (w.heap.size + 1) w5.heap.size bo vc pv) (fun _ _ _ => False)
    (fun s A C row hs hg hr => hs.turn hg fun r e => ⟨by have := (hr r e).1; omega, (hr r e).2⟩) (fun _ _ _ _ _ hs _ _ => hs) hinv0 _ ?assign ?body ?done ?stop
  case assign =>
    intro l x W K hK
    gi_wp2
    exact hK
  case body =>
    intro l pre x W hi hlen
    obtain ⟨rv1, vs1, pv1, p1, -, d1, -, -, o1⟩ := hi.log.form
    obtain ⟨r1, r2, r3⟩ := p1.rules
    obtain ⟨s1, s2, s3⟩ := hi.lbox.rules
    have habox := hi.abox
    have hat : (g.fin + pre.length) % g.ring < g.ring := Nat.mod_lt _ (by omega)
    have hatn : ((g.fin + pre.length) % g.ring + 1) % g.ring = (g.fin + (pre ++ [x]).length) % g.ring := by
      rw [Nat.mod_add_mod, List.length_append, List.length_singleton]; congr 1
    have hapd := appD_snoc g.ring g.turn (partB b x) (pre.map (partB b)) g.d g.fin hfi
    rw [List.length_map] at hapd
    have HAT := Lib.hid hatn
    generalize hatN : (g.fin + pre.length) % g.ring = atN at *
    obtain ⟨t1, t2, t3⟩ := habox.rules
    obtain ⟨oc, ob, oh⟩ := hi.out
    have HAB := Lib.hid habox
    have HAPD := Lib.hid hapd
    have hat2 : atN ≤ 65536 := by have := HRING.out; omega
    clear hatN hatn hapd habox
    unfold WgCells at r1
    have hb5 := Blk.new W 5 zc64
    have e64 : zc64 = (List.replicate 64 (Value.int .u8 0)).toArray := rfl
    rw [e64] at hb5
    have hturn : g.turn < 18446744073709551616 := by have := B6.out.turn; rw [huge_is] at this; omega
    have C1 := Lib.hid (f81_lay (w1 := W) (W.alloc (.cells zc64 5)) W.heap.size 0 64 64 g.turn (g.turn : Int) _ hb5 (Ext.rfl'.alloc _) (Nat.le_refl _) (by simp) (by omega) hturn rfl)
    have HI := Lib.hid hi
    have OB := Lib.hid ob
    have OH := Lib.hid oh
    have P1 := Lib.hid p1
    have D1 := Lib.hid d1
    have O1 := Lib.hid o1
    have HMK := Lib.hid hmk
    clear hi hb5 e64 p1 d1 o1 ob oh y1 y2 y3 z1 z2 z3 q1 q2 q3
    gi_wp2_with (refine ⟨trivial, ?_⟩; gi_at_call 81; refine (CallsIn.inRound l (callsIn_wide.2 C1.out)).mono ?_; rintro e w8 ⟨rfl, hb8, hx8⟩; obtain ⟨w9, hcp, hb9, hx9⟩ := part_copy b x bo W.heap.size _ oc hb8 (lay_len (by simp) (by omega)) hx8 (Nat.le_refl _) OB.out OH.out; have HB9 := Lib.hid hb9; have HX9 := Lib.hid hx9; clear hb8 hx8 hb9 hx9 C1)
    clear hcp
    have p9 := P1.out.ext HX9.out
    obtain ⟨r1, r2, r3⟩ := p9.rules
    unfold WgCells at r1
    obtain ⟨s1, s2, s3⟩ := (HI.out.lbox.ext HX9.out).rules
    obtain ⟨t1, t2, t3⟩ := (HAB.out.ext HX9.out).rules
    have z1 := lay_len (off := 0) (v := g.turn) (show (List.replicate 64 (Value.int .u8 0)).length = 64 by simp) (by omega)
    have z2 : (spl (spl (List.replicate 64 (Value.int .u8 0)) 0 (bytesV (be8 g.turn))) 8 (bytesV (partB b x))).length = 64 := by rw [spl_length (by rw [z1, bytesV_length, partB_length]; omega), z1]
    have C2 := Lib.hid (f81_lay (w1 := W) w9.drew W.heap.size 56 8 8 g.turn (g.turn : Int) _ HB9.out.drew HX9.out.drew (Nat.le_refl _) (by rw [z2]; omega) (by omega) hturn rfl)
    clear z1 z2 p9
    refine in_region_tail 6 (by kernel_rfl) (by kernel_rfl) (by kernel_rfl) (fun ⟨_, _, h⟩ => h) ?_
    simp only [List.take_succ_cons, List.take_zero, List.drop_succ_cons, List.drop_zero]
    repeat still_step
    refine wpStill_nil ?_
    go_wp2_with (go_at_call 81; refine C2.out.mono ?_; rintro e w10 ⟨rfl, hb10, hx10⟩; have HB10 := Lib.hid hb10; have HX10 := Lib.hid hx10; clear hb10 hx10 C2)
    obtain ⟨ak1, ak2, ak3, ak4⟩ := appD_kept g.ring g.turn (pre.map (partB b)) g.d g.fin
    have hb11 := HB10.out
    rw [sec_lay g.turn (q := partB b x) (by rw [partB_length]; omega)] at hb11
    have hsl : (secB g.turn (partB b x)).length = 64 := secB_length (by rw [partB_length]; omega)
    have hchn : chN (b.length + 3) = secs b.length := rfl
    have C82 := f82_up w10.drew dp (2 + atN) _ (secB g.turn (partB b x)) _ (D1.out.ext HX10.out.drew) (IsBytes.of_blk hb11.drew hsl) hsl (by show _ < (appD _ _ _ _ _).kept.length; rw [ak1]; have := HRING.out; omega) (by rw [← HC.out.up]; exact ak2) (by show (appD _ _ _ _ _).wait.length < _; rw [ak4, List.length_map]; omega)
    have hcalm : Calm (appD g.d g.ring g.turn g.fin (pre.map (partB b))) := ⟨by rw [ak2]; exact HC.out.up, by rw [ak3]; exact HC.out.free⟩
    rw [(hcalm.wr _ _).hitB, (hcalm.wr _ _).hitDk, show ((2 + atN : Nat) : Int) = 2 + (atN : Int) by simp] at C82
    simp only [Bool.false_eq_true, if_false] at C82
    have C82 := Lib.hid C82
    have HCALM := Lib.hid hcalm
    have p10 := P1.out.ext HX10.out
    obtain ⟨r1, r2, r3⟩ := p10.rules
    unfold WgCells at r1
    obtain ⟨s1, s2, s3⟩ := (HI.out.lbox.ext HX10.out).rules
    obtain ⟨t1, t2, t3⟩ := (HAB.out.ext HX10.out).rules
    have hw2 : IntKind.i64.wrap (2 + (atN : Int)) = 2 + (atN : Int) := IntWalk.i64_in _ ⟨by omega, by omega⟩
    clear hb11 hsl hcalm p10
    gi_wp2
    refine in_region_held (S := fun wq => wq.cell? ⟨w.heap.size, 0, none⟩ = some (.pointer (some ⟨p, 0, none⟩)) ∧ wq.cell? ⟨p, 0, none⟩ = some (.pointer (some ⟨dp, 0, none⟩)) ∧ wq.cell? ⟨w5.heap.size, 0, none⟩ = some (.int .i64 atN)) (by kernel_rfl) (by kernel_rfl) (fun ⟨_, _, h⟩ => h) ⟨by rw [World.cell?_drew, s1]; rfl, by rw [World.cell?_drew, r1]; rfl, by rw [World.cell?_drew, t1]; rfl⟩ (fun hHeld => ?_)
    refine wpAnyH_take (i := 0) (v := ?v0) rfl (by kernel_rfl) (by kernel_rfl) (by kernel_rfl) (fun _ _ _ h => h) (Or.inl ⟨by rfl, ?y0⟩) (by assumption) ?r0
    case y0 =>
      rintro wq ⟨u1, u2, u3⟩
      go_simp
      with_reducible rfl
    try simp only [Act.put, List.setIfInBounds_toArray, List.set_cons_zero, List.set_cons_succ]
    refine wpAnyH_take (i := 1) (v := ?v1) rfl (by kernel_rfl) (by kernel_rfl) (by kernel_rfl) (fun _ _ _ h => h) (Or.inl ⟨by rfl, ?y1⟩) (by assumption) ?r1
    case y1 =>
      rintro wq ⟨u1, u2, u3⟩
      go_simp
      with_reducible rfl
    try simp only [Act.put, List.setIfInBounds_toArray, List.set_cons_zero, List.set_cons_succ]
    refine wpAnyH_take (i := 2) (v := ?v2) rfl (by kernel_rfl) (by kernel_rfl) (by kernel_rfl) (fun _ _ _ h => h) (Or.inl ⟨by rfl, ?y2⟩) (by assumption) ?r2
    case y2 =>
      rintro wq ⟨u1, u2, u3⟩
      go_simp
      with_reducible rfl
    try simp only [Act.put, List.setIfInBounds_toArray, List.set_cons_zero, List.set_cons_succ]
    refine wpAnyH_take (i := 3) (v := ?v3) rfl (by kernel_rfl) (by kernel_rfl) (by kernel_rfl) (fun _ _ _ h => h) (Or.inl ⟨by rfl, ?y3⟩) (by assumption) ?r3
    case y3 =>
      rintro wq ⟨u1, u2, u3⟩
      go_simp
      with_reducible rfl
    try simp only [Act.put, List.setIfInBounds_toArray, List.set_cons_zero, List.set_cons_succ]
    refine wpAnyH_take (i := 4) (v := ?v4) rfl (by kernel_rfl) (by kernel_rfl) (by kernel_rfl) (fun _ _ _ h => h) (Or.inl ⟨by rfl, ?y4⟩) (by assumption) ?r4
    case y4 =>
      rintro wq ⟨u1, u2, u3⟩
      go_simp
      with_reducible rfl
    try simp only [Act.put, List.setIfInBounds_toArray, List.set_cons_zero, List.set_cons_succ]
    refine wpAnyH_take (i := 5) (v := ?v5) rfl (by kernel_rfl) (by kernel_rfl) (by kernel_rfl) (fun _ _ _ h => h) (Or.inl ⟨by rfl, ?y5⟩) (by assumption) ?r5
    case y5 =>
      rintro wq ⟨u1, u2, u3⟩
      go_simp
      with_reducible rfl
    try simp only [Act.put, List.setIfInBounds_toArray, List.set_cons_zero, List.set_cons_succ]
    refine wpAnyH_take (i := 6) (v := ?v6) rfl (by kernel_rfl) (by kernel_rfl) (by kernel_rfl) (fun _ _ _ h => h) (Or.inl ⟨by rfl, ?y6⟩) (by assumption) ?r6
    case y6 =>
      rintro wq ⟨u1, u2, u3⟩
      go_simp
      with_reducible rfl
    try simp only [Act.put, List.setIfInBounds_toArray, List.set_cons_zero, List.set_cons_succ]
    refine wpAnyH_take (i := 7) (v := ?v7) rfl (by kernel_rfl) (by kernel_rfl) (by kernel_rfl) (fun _ _ _ h => h) (Or.inl ⟨by rfl, ?y7⟩) (by assumption) ?r7
    case y7 =>
      rintro wq ⟨u1, u2, u3⟩
      go_simp
      with_reducible rfl
    try simp only [Act.put, List.setIfInBounds_toArray, List.set_cons_zero, List.set_cons_succ]
    refine wpAnyH_ready (rs := [8]) (by kernel_rfl) (by simp) ?_
    refine AllReadyH.cons rfl (fun K hK => ?_) AllReadyH.nil
    go_simp
    refine C82.out.mono ?_
    rintro e w11 ⟨rfl, hd11, hm11⟩
    have m11 : Mut B [91, 95] W w11 := (HX10.out.drew.mut).trans hm11
    have hl11 := HI.out.log.disk hd11 m11 (by show (appD _ _ _ _ _).kept.length = _; rfl) (by simp)
    have C61 := Lib.hid (f61_blk w11 p dp _ hl11)
    have M11 := Lib.hid m11
    have PL11 := Lib.hid (show w11.cell? ⟨p, 5, none⟩ = some pv by rw [(P1.out.mut m11 (by simp)).rules.1, ← P1.out.rules.1]; exact HI.out.pl)
    obtain ⟨r1, r2, r3⟩ := (P1.out.mut m11 (by simp)).rules
    unfold WgCells at r1
    obtain ⟨s1, s2, s3⟩ := (HI.out.lbox.mut m11 (by simp)).rules
    obtain ⟨t1, t2, t3⟩ := (HAB.out.mut m11 (by simp)).rules
    refine hK.out _ _ ⟨by rw [s1]; rfl, by rw [r1]; rfl, by rw [t1]; rfl⟩ (fun hHeld2 => ?_)
    clear hK K hd11 hm11 m11 hl11 C82 hHeld
    try simp only [Act.put, List.setIfInBounds_toArray, List.set_cons_zero, List.set_cons_succ]
    refine wpAnyH_ready (rs := [9]) (by kernel_rfl) (by simp) ?_
    refine AllReadyH.cons rfl (fun K hK => ?_) AllReadyH.nil
    go_simp
    refine C61.out.mono ?_
    rintro e w12 ⟨rfl, hl12, hm12, hf12, hp12⟩
    have PL12 := Lib.hid (hp12.trans PL11.out)
    have m12 : Mut B [91, 95, 97] W w12 := (M11.out.mono (by simp)).trans (hm12.mono (by simp))
    have HL12 := Lib.hid hl12
    have HM12 := Lib.hid hm12
    have HF12 := Lib.hid hf12
    have M12 := Lib.hid m12
    obtain ⟨_, _, _, p12, -⟩ := hl12.form
    obtain ⟨r1, r2, r3⟩ := p12.rules
    unfold WgCells at r1
    obtain ⟨s1, s2, s3⟩ := (HI.out.lbox.mut m12 (by simp)).rules
    obtain ⟨t1, t2, t3⟩ := (HAB.out.mut m12 (by simp)).rules
    refine hK.out _ _ ⟨by rw [s1]; rfl, by rw [r1]; rfl, by rw [t1]; rfl⟩ (fun hHeld3 => ?_)
    clear hK K hl12 hm12 hf12 m12 C61 hHeld2 hp12
    try simp only [Act.put, List.setIfInBounds_toArray, List.set_cons_zero, List.set_cons_succ]
    refine wpAnyH_take (i := 10) (v := ?v10) rfl (by kernel_rfl) (by kernel_rfl) (by kernel_rfl) (fun _ _ _ h => h) (Or.inl ⟨by rfl, ?y10⟩) (by assumption) ?r10
    case y10 =>
      rintro wq ⟨u1, u2, u3⟩
      go_simp
      with_reducible rfl
    try simp only [Act.put, List.setIfInBounds_toArray, List.set_cons_zero, List.set_cons_succ]
    refine wpAnyH_done (by kernel_rfl) ?_ _
    gi_wp2
    have hrg : (appD g.d g.ring g.turn g.fin (pre.map (partB b))).kept.length - 2 = g.ring := by rw [ak1]; exact HRING.out.symm
    have C70b : Calls Tryz.prog 70 #[.pointer (some ⟨p, 0, none⟩)] w12.drew fun e w' => e = .returned (.int .i64 g.ring) ∧ w' = w12.drew := (f70_calls w12.drew p dp _ (HL12.out.ext Ext.rfl'.drew)).mono fun e w' h => ⟨h.1.trans (by show Ending.returned (.int .i64 (((appD g.d g.ring g.turn g.fin (pre.map (partB b))).kept.length - 2 : Nat) : Int)) = _; rw [hrg]), h.2.symm⟩
    have C70b := Lib.hid C70b
    have hwa : IntKind.i64.wrap ((atN : Int) + 1) = (atN : Int) + 1 := IntWalk.i64_in _ ⟨by omega, by omega⟩
    have hwm : ((atN : Int) + 1).tmod (g.ring : Int) = (((atN + 1) % g.ring : Nat) : Int) := by rw [Int.tmod_eq_emod_of_nonneg (by omega)]; simp
    have hrz : g.ring ≠ 0 := by omega
    clear hrg hHeld3
    refine in_region_tail 5 (by kernel_rfl) (by kernel_rfl) (by kernel_rfl) (fun ⟨_, _, h⟩ => h) ?_
    simp only [List.take_succ_cons, List.take_zero, List.drop_succ_cons, List.drop_zero]
    repeat (first | still_call C70b.out | still_step)
    refine wpStill_nil ?_
    go_wp2
    have e1 : ((atN : Int) + 1) % (g.ring : Int) = (((g.fin + (pre ++ [x]).length) % g.ring : Nat) : Int) := by rw [← HAT.out]; simp
    rw [e1]
    have hab12 := HAB.out.mut M12.out (by simp)
    have hBab : B ≤ w5.heap.size := by omega
    have hne : pv.ownBlock ≠ some w5.heap.size := fun e => by have := HPB.out _ e; omega
    obtain ⟨_, _, _, p12, -⟩ := HL12.out.form
    have mab : Mut B [3] w12 (w12.setCell ⟨w5.heap.size, 0, none⟩ (.int .i64 (((g.fin + (pre ++ [x]).length) % g.ring : Nat) : Int))) := (Mut.rfl' (w := w12)).put hab12 (by simp) hBab 0 none _
    have m13 : Mut B [91, 95, 97, 3] W (w12.setCell ⟨w5.heap.size, 0, none⟩ (.int .i64 (((g.fin + (pre ++ [x]).length) % g.ring : Nat) : Int))).drew := ((M12.out.mono (by simp)).trans (mab.mono (by simp))).drew
    have hsb := ((HI.out.sbx.mut M12.out (by simp)).far (p := ⟨w5.heap.size, 0, none⟩) (by simp) (.int .i64 (((g.fin + (pre ++ [x]).length) % g.ring : Nat) : Int))).drew
    have hnb := ((HI.out.nbx.mut M12.out (by simp)).far (p := ⟨w5.heap.size, 0, none⟩) (by simp; omega) (.int .i64 (((g.fin + (pre ++ [x]).length) % g.ring : Nat) : Int))).drew
    have hlog := (HL12.out.far PL12.out hne hab12 hBab (.int .i64 (((g.fin + (pre ++ [x]).length) % g.ring : Nat) : Int))).ext Ext.rfl'.drew
    have hhw := HI.out.mu.size
    refine ⟨m13.keeps.from _, ⟨by have a := hsb; have b := HI.out.sbx; unfold Blk at a b; rw [a, b], by have a := hnb; have b := HI.out.nbx; unfold Blk at a b; rw [a, b]⟩, ?_, HI.out.lbox.mut m13 (by simp), HI.out.rbox.mut m13 (by simp), ?_, ⟨oc, OB.out.mut m13 (by simp), OH.out⟩, hsb, hnb, ?_, ?_, ?_⟩
    · rw [List.map_append, List.map_singleton, HAPD.out]
      exact hlog
    · simpa using (hab12.set_ 0 (.int .i64 (((g.fin + (pre ++ [x]).length) % g.ring : Nat) : Int))).drew
    · rw [World.cell?_drew, (p12.mut mab (by simp)).rules.1, ← p12.rules.1]; exact PL12.out
    · exact ((HI.out.mu.trans M12.out).setNew (p := ⟨w5.heap.size, 0, none⟩) (by omega) _).drew
    · have f1 := RecFar.of_mut (HX10.out.drew.mut (B := B) (T := [])) P1.out (by simp) (by simp)
      have f2 := RecFar.of_mut mab.drew p12 (by simp) (by simp)
      have f3 : RecFar p W w11 := RecFar.of_mut M11.out P1.out (by simp) (by simp)
      exact ((HI.out.far.trans f3 hhw).trans HF12.out (by have := M11.out.size; omega)).trans f2 (by have := M12.out.size; omega)
  case done =>
    rintro D xs W hD rfl hi hK
    rw [hnum] at hi
    have hlog : LogAt B W p dp { g with d := appD g.d g.ring g.turn g.fin (partsB b) } := hi.log
    obtain ⟨s1, s2, s3⟩ := hi.lbox.rules
    obtain ⟨t1, t2, t3⟩ := hi.rbox.rules
    obtain ⟨ak1, -, -, -⟩ := appD_kept g.ring g.turn (partsB b) g.d g.fin
    have hrg : ({ g with d := appD g.d g.ring g.turn g.fin (partsB b) } : Wg).ring = g.ring := by show (appD g.d g.ring g.turn g.fin (partsB b)).kept.length - 2 = _; rw [ak1]; exact HRING.out.symm
    have hvW := HV.out.mut hi.mu (by simp)
    have c74 := fun wx (hx : Ext W wx) => f74_row (B := B) (e' := 5) wx A b.length c (bytesV b) (by simp) ((hvW.ext hx).form_at) (bytesV_one _) (by rw [big_is]; omega) hvW.nilOk
    have C74 := Lib.hid c74
    have HI := Lib.hid hi
    have HLG := Lib.hid hlog
    have HRG := Lib.hid hrg
    have HK := Lib.hid hK
    clear c74 hi hlog hrg hK hvW ak1 y1 y2 y3 z1 z2 z3 q1 q2 q3
    go_wp2
    go_region_held3 (fun wq => wq.cell? ⟨w.heap.size, 0, none⟩ = some (.pointer (some ⟨p, 0, none⟩))) (go_keep) (first | (go_at_call 74; refine (C74.out _ (Ext.rfl'.drew)).mono ?_; rintro e wA ⟨v1, rfl, hown1, hx1⟩; obtain ⟨V1, n1, rfl, -, -, -⟩ := own_form hown1; have XA := Lib.hid ((Ext.rfl'.drew (w := W)).trans hx1); obtain ⟨sa1, sa2, sa3⟩ := (HI.out.lbox.ext ((Ext.rfl'.drew (w := W)).trans hx1)).rules; have D79 := Lib.hid (f79_calls wA p dp _ _ b (HLG.out.ext ((Ext.rfl'.drew (w := W)).trans hx1)) (IsBytes.of_own hown1) hb hn (by rw [HRG.out]; exact hu)); clear hown1 hx1) | (go_at_call 79; refine D79.out.mono ?_; rintro e wB ⟨rfl, hlB, hmB, hfB⟩; obtain ⟨sb1, sb2, sb3⟩ := ((HI.out.lbox.ext XA.out).mut hmB (by simp)).rules; have HLB := Lib.hid hlB; have HMB := Lib.hid hmB; have HFB := Lib.hid hfB; clear hlB hmB hfB))
    have K9 := Lib.hid (HLB.out.wait true)
    obtain ⟨_, _, _, p9, -⟩ := HLB.out.form
    obtain ⟨x1, x2, x3⟩ := p9.rules
    unfold WgCells at x1
    have rb9 := Lib.hid ((HI.out.rbox.ext XA.out).mut HMB.out (by simp))
    obtain ⟨u1, u2, u3⟩ := rb9.out.rules
    clear sa1 sa2 sa3 s1 s2 s3 t1 t2 t3 D79
    go_wp2
    have hBr : B ≤ w.heap.size + 1 := by omega
    have rb10 : Blk (wB.setCell ⟨p, 8, none⟩ (.bool true)) (w.heap.size + 1) 40 #[.int .i64 0] := rb9.out.mut K9.out.2 (by simp)
    have m40 : Mut B [40] (wB.setCell ⟨p, 8, none⟩ (.bool true)) ((wB.setCell ⟨p, 8, none⟩ (.bool true)).setCell ⟨w.heap.size + 1, 0, none⟩ (.int .i64 0)) := (Mut.rfl' (w := _)).put rb10 (by simp) hBr 0 none _
    have hlF := K9.out.1.mut m40 (by simp)
    have rbF := rb10.set_ 0 (.int .i64 0)
    have mW : Mut B [97, 25, 3] W (wB.setCell ⟨p, 8, none⟩ (.bool true)) := (XA.out.mut.trans HMB.out).trans (K9.out.2.mono (by simp))
    have hsW := HI.out.mu.size
    have mF : Mut B [91, 95, 97, 25, 3] w ((wB.setCell ⟨p, 8, none⟩ (.bool true)).setCell ⟨w.heap.size + 1, 0, none⟩ (.int .i64 0)) := ((HI.out.mu.mono (by simp)).trans (mW.mono (by simp))).setNew (p := ⟨w.heap.size + 1, 0, none⟩) (by simp) _
    obtain ⟨rv8, vs8, pv8, pW, -⟩ := HI.out.log.form
    have f1 : RecFar p W wA := RecFar.of_mut (B := B) (T := []) XA.out.mut pW (by simp) (by simp)
    have f3 : RecFar p wB (wB.setCell ⟨p, 8, none⟩ (.bool true)) := RecFar.put p9 (by omega) _
    obtain ⟨_, _, _, pX, -⟩ := K9.out.1.form
    have f4 := RecFar.of_mut m40 pX (by simp) (by simp)
    have fF := (((HI.out.far.trans f1 hsW).trans HFB.out (by have := XA.out.size; omega)).trans f3 (by have := XA.out.size; have := HMB.out.size; omega)).trans f4 (by have := mW.size; omega)
    have hKF := (mW.trans' m40).same D _ HK.out rfl
    obtain ⟨_, _, _, pF, -⟩ := hlF.form
    have hsD : w.heap.size ≤ D := by omega
    generalize ((wB.setCell ⟨p, 8, none⟩ (.bool true)).setCell ⟨w.heap.size + 1, 0, none⟩ (.int .i64 0)) = wF at *
    have hgF := grownBy_putObj' wF D (.deferred none)
    have hrF : ∀ r, some D = some r → w.heap.size ≤ r ∧ ∃ o : Obj, wF.heap[r]? = some o ∧ o.isCells = false := fun r e => by cases e; exact ⟨hsD, _, hKF, rfl⟩
    have hcF := Cells.of hgF fun r e => (hrF r e).2
    have hres : (wF.putObj D (.deferred none)).cell? ⟨w.heap.size + 1, 0, none⟩ = some (.int .i64 0) := hcF.cell (by rw [rbF.rules.1]; rfl)
    refine ⟨by simp, .inl ⟨_, _, rfl, run_takeDeferred hKF, ?_⟩⟩
    refine ⟨.int .i64 0, by simp [results, Tryz.results73, go_sem, hres], rfl, hcF.log hlF, mF.turn hgF hrF, fF.turn (by rw [pF.rules.1]; rfl) mF.size hgF hrF⟩
  case stop =>
    rintro D c pre W hD _ hx _
    exact hx.elim
end Go.Proofs.YtpjodgoljocnlaaGreatDoor
