/- The disk: what it is, and its small calls. -/
import Derived.Test.YtpjodgoljocnlaaGreatDoorArr
import Derived.Test.YtpjodgoljocnlaaGreatDoorErrs
import Derived.Laws.MakeOwn
namespace Go.Proofs.YtpjodgoljocnlaaGreatDoor
open Go Go.RowKit
variable {B : Nat}
structure Dk where
  kept : List (List UInt8)
  wait : List (Nat × List UInt8)
  down : Bool
  armed : Nat
structure Dk.Ok (d : Dk) : Prop where
  lo : 1 ≤ d.kept.length
  hi : d.kept.length ≤ 65536
  sec : ∀ s, s ∈ d.kept → s.length = 64
  wt : ∀ x, x ∈ d.wait → x.1 < d.kept.length ∧ x.2.length = 64
  arm : d.armed ≤ 9223372036854775807
def writeCells (l : List (Nat × List UInt8)) : List Value := l.flatMap fun x => .int .i64 x.1 :: bytesV x.2
def DiskAt (B : Nat) (w : World) (p : Nat) (d : Dk) : Prop :=
  ∃ kb wv, Blk w p 91 #[.slice (some ⟨kb, 0, none⟩) d.kept.length d.kept.length, wv, .bool d.down, .int .i64 d.armed] ∧ B ≤ p ∧ B ≤ kb ∧
    Blk w kb 93 (bytesV d.kept.flatten).toArray ∧ w.ownsRow B 95 65 wv d.wait.length (writeCells d.wait) ∧ d.Ok
theorem DiskAt.mut {T : List Nat} {w w' : World} {p : Nat} {d : Dk} (h : DiskAt B w p d) (he : Mut B T w w') (h1 : 91 ∉ T) (h2 : 93 ∉ T) (h3 : 95 ∉ T) : DiskAt B w' p d := by
  obtain ⟨kb, wv, a, b, c, e, f, g⟩ := h
  exact ⟨kb, wv, a.mut he h1, b, c, e.mut he h2, own_mut f he h3, g⟩
theorem DiskAt.ext {w w' : World} {p : Nat} {d : Dk} (h : DiskAt B w p d) (he : Ext w w') : DiskAt B w' p d := h.mut (T := []) he.mut (by simp) (by simp) (by simp)
theorem DiskAt.form {w : World} {p : Nat} {d : Dk} (h : DiskAt B w p d) : ∃ kb wv, Blk w p 91 #[.slice (some ⟨kb, 0, none⟩) d.kept.length d.kept.length, wv, .bool d.down, .int .i64 d.armed] ∧ B ≤ p ∧ B ≤ kb ∧
    Blk w kb 93 (bytesV d.kept.flatten).toArray ∧ w.ownsRow B 95 65 wv d.wait.length (writeCells d.wait) ∧ d.Ok := h

theorem run_make_rowN {P : Program} (t e : TypeId) (i : TypeInfo) (z : Value) (ht : P.underlying t = some (.slice e)) (hi : P.info? e = some i) (hz : i.zero = some z)
    (kl kc : IntKind) (n c : Nat) (hnc : n ≤ c) (hbytes : i.bytes * c ≤ 281474976710656) (h63 : c ≤ 9223372036854775807) (w : World) :
    (Instr.makeSlice t (.int kl (n : Int)) (.int kc (c : Int))).run P w = .ok (.slice (some ⟨w.heap.size, 0, none⟩) n c) (w.alloc (.cells (madeCells z.cells (c * i.size)) e)) := by
  have hb : (i.bytes : Int) * (c : Int) ≤ 281474976710656 := by
    have h : ((i.bytes * c : Nat) : Int) ≤ 281474976710656 := by omega
    rwa [Int.natCast_mul] at h
  have hr := run_make (P := P) w t e i z ht hi hz kl kc n c (by omega) (by omega) hb (by omega)
  simp only [Int.toNat_natCast] at hr
  exact hr
theorem Tryz.info93 : (Tryz.prog.info? 93).map (fun i => (i.zero, i.size, i.bytes)) = some (some (.agg (Array.replicate 64 (.int .u8 0))), 64, 64) := by kernel_rfl
def zeroDisk (n : Nat) : Dk := ⟨List.replicate n (List.replicate 64 0), [], false, 0⟩

theorem flat_rep (n m : Nat) (x : UInt8) : (List.replicate n (List.replicate m x)).flatten = List.replicate (n * m) x := by
  simp
theorem flat_zero (n : Nat) : (List.replicate n (List.replicate 64 (0 : UInt8))).flatten = List.replicate (n * 64) 0 := flat_rep n 64 0
theorem made_zero (n : Nat) : madeCells (Array.replicate 64 (.int .u8 0)) (n * 64) = (bytesV (List.replicate n (List.replicate 64 0)).flatten).toArray := by
  rw [flat_zero]
  apply Array.ext
  · simp [madeCells]
  · intro i h1 h2
    have hm : i % 64 < 64 := Nat.mod_lt _ (by omega)
    simp [madeCells, bytesV, hm]
theorem zeroDisk_ok {n : Nat} (h1 : 1 ≤ n) (h2 : n ≤ 65536) : (zeroDisk n).Ok :=
  ⟨by simpa [zeroDisk] using h1, by simpa [zeroDisk] using h2, fun s hs => by simp [zeroDisk] at hs; rw [hs.2]; simp, fun x hx => by simp [zeroDisk] at hx, by simp [zeroDisk]⟩
set_option maxRecDepth 100000 in
set_option maxHeartbeats 1000000 in
theorem f18_calls (w : World) (n : Nat) (h1 : 1 ≤ n) (h2 : n ≤ 65536) (hB : B ≤ w.heap.size) :
    Calls Tryz.prog 18 #[.int .i64 n] w fun e w' => ∃ p, e = .returned (.tuple #[.pointer (some ⟨p, 0, none⟩), .int .i64 0]) ∧ DiskAt B w' p (zeroDisk n) ∧ Ext w w' := by
  obtain ⟨i0, hi0, hz0, hz1, hz2⟩ := info_parts Tryz.info93
  have hmk := fun W => run_make_rowN (P := Tryz.prog) 88 93 i0 _ Tryz.underlying88 hi0 hz0 .i64 .i64 n n (Nat.le_refl _) (by rw [hz2]; omega) (by omega) W
  go_enter Tryz.func18, Tryz.ntmps18
  go_wp2
  go_ret2
  refine ⟨w.heap.size + 1, rfl, ⟨w.heap.size, .slice none 0 0, ?_, by omega, hB, ?_, World.ownsRow_nil _ _ _ _, zeroDisk_ok h1 h2⟩, (Ext.rfl'.alloc _).alloc _⟩
  · simpa [zeroDisk] using Blk.new (w.alloc _) 91 _
  · have h := (Blk.new w 93 (madeCells (Array.replicate 64 (.int .u8 0)) (n * i0.size))).alloc (.cells #[.slice (some ⟨w.heap.size, 0, none⟩) n n, .slice none 0 0, .bool false, .int .i64 0] 91)
    show Blk _ _ _ (bytesV (List.replicate n (List.replicate 64 0)).flatten).toArray
    rw [hz1] at h
    rw [← made_zero n]
    exact h

/-! ### small calls -/
set_option maxRecDepth 100000 in
set_option maxHeartbeats 1000000 in
theorem f47_calls (w : World) (p : Nat) (d : Dk) (h : DiskAt B w p d) :
    Calls Tryz.prog 47 #[.pointer (some ⟨p, 0, none⟩)] w fun e w' => e = .returned (.int .i64 d.kept.length) ∧ w = w' := by
  obtain ⟨kb, wv, b1, -, -, -, -, -⟩ := h.form
  obtain ⟨r1, -, -⟩ := b1.rules
  clear h b1
  go_enter Tryz.func47, Tryz.ntmps47
  go_wp2
  go_ret
  exact ⟨rfl, rfl⟩
def upErr (d : Dk) : Int := if d.down then 3 else 0
set_option maxRecDepth 100000 in
set_option maxHeartbeats 1000000 in
theorem f75_calls (w : World) (p : Nat) (d : Dk) (h : DiskAt B w p d) :
    Calls Tryz.prog 75 #[.pointer (some ⟨p, 0, none⟩)] w fun e w' => e = .returned (.int .i64 (upErr d)) ∧ w = w' := by
  obtain ⟨kb, wv, b1, -, -, -, -, -⟩ := h.form
  obtain ⟨r1, -, -⟩ := b1.rules
  clear h b1
  have hd : ∃ x, d.down = x := ⟨_, rfl⟩
  obtain ⟨x, hx⟩ := hd
  rw [hx] at r1
  have HD := Lib.hid hx
  clear hx
  cases x <;> (
    go_enter Tryz.func75, Tryz.ntmps75
    go_wp2
    go_ret
    exact ⟨ret_int (by simp [upErr, HD.out]), rfl⟩)
set_option maxRecDepth 100000 in
set_option maxHeartbeats 1000000 in
theorem f25_calls (w : World) (p : Nat) (d : Dk) (h : DiskAt B w p d) :
    Calls Tryz.prog 25 #[.pointer (some ⟨p, 0, none⟩)] w fun e w' => e = .returned (.bool d.down) ∧ w = w' := by
  obtain ⟨kb, wv, b1, -, -, -, -, -⟩ := h.form
  obtain ⟨r1, -, -⟩ := b1.rules
  clear h b1
  go_enter Tryz.func25, Tryz.ntmps25
  go_wp2
  go_ret
  exact ⟨rfl, rfl⟩
/-- the disk with one of its four fields turned -/
def hitDk (d : Dk) : Dk := if d.armed = 0 then d else { d with armed := d.armed - 1, down := d.armed == 1 }
def hitB (d : Dk) : Bool := if d.armed = 0 then false else d.armed == 1
set_option maxRecDepth 100000 in
set_option maxHeartbeats 1000000 in
theorem f101_calls (w : World) (p : Nat) (d : Dk) (h : DiskAt B w p d) :
    Calls Tryz.prog 101 #[.pointer (some ⟨p, 0, none⟩)] w fun e w' => e = .returned (.bool (hitB d)) ∧ DiskAt B w' p (hitDk d) ∧ Mut B [91] w w' := by
  obtain ⟨kb, wv, b1, b2, b3, b4, b5, b6⟩ := h.form
  obtain ⟨r1, r2, r3⟩ := b1.rules
  have ha := b6.arm
  have H := Lib.hid h
  have B1 := Lib.hid b1
  have B4 := Lib.hid b4
  have B5 := Lib.hid b5
  clear h b1 b4 b5
  by_cases hz : d.armed = 0
  · have hz' : ((d.armed : Int) == 0) = true := by simp [hz]
    have HZ := Lib.hid hz
    clear hz
    go_enter Tryz.func101, Tryz.ntmps101
    go_wp2
    go_ret
    refine ⟨ret_bool (by simp [hitB, HZ.out]), ?_, Mut.rfl'⟩
    rw [hitDk, if_pos HZ.out]; exact H.out
  · have hz' : ((d.armed : Int) == 0) = false := by simp [hz]
    have hlo : 1 ≤ d.armed := by omega
    have hq : ∃ x : Bool, ((d.armed : Int) - 1 == 0) = x := ⟨_, rfl⟩
    obtain ⟨x, hx⟩ := hq
    have HX := Lib.hid hx
    have HZ := Lib.hid hz
    clear hz
    go_enter Tryz.func101, Tryz.ntmps101
    go_wp2
    go_ret
    have hx2 : x = (d.armed == 1) := by
      rw [← HX.out, Bool.eq_iff_iff]; simp only [beq_iff_eq]; omega
    have e1 : (d.armed : Int) - 1 = ((d.armed - 1 : Nat) : Int) := by omega
    rw [e1]
    have m : Mut B [91] w _ := ((Mut.rfl' (w := w)).put B1.out (by simp) b2 3 none (.int .i64 ((d.armed - 1 : Nat) : Int))).put B1.out (by simp) b2 2 none (.bool x)
    refine ⟨ret_bool (by simp only [hitB]; rw [if_neg HZ.out, hx2]), ⟨kb, wv, ?_, b2, b3, ?_, ?_, ?_⟩, m⟩
    · simpa [hitDk, HZ.out, hx2] using (B1.out.set_ 3 (.int .i64 ((d.armed - 1 : Nat) : Int))).set_ 2 (.bool x)
    · have := B4.out.mut m (by simp)
      simpa [hitDk, HZ.out] using this
    · have := own_mut B5.out m (by simp)
      simpa [hitDk, HZ.out] using this
    · have := b6
      refine ⟨?_, ?_, ?_, ?_, ?_⟩ <;> simp only [hitDk, if_neg HZ.out]
      · exact b6.lo
      · exact b6.hi
      · exact b6.sec
      · exact b6.wt
      · omega
end Go.Proofs.YtpjodgoljocnlaaGreatDoor
