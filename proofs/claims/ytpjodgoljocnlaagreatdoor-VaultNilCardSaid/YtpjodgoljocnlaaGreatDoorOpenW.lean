/- wal.Open of a disk that nobody has written to. -/
import Derived.Test.YtpjodgoljocnlaaGreatDoorFind
namespace Go.Proofs.YtpjodgoljocnlaaGreatDoor
open Go Go.RowKit
variable {B e' : Nat}
theorem numAt_zero {i : Nat} (h : i ≤ 56) : numAt (List.replicate 64 0) i = 0 := by
  unfold numAt
  rw [List.drop_replicate, List.take_replicate, show min 8 (64 - i) = 8 by omega]
  decide
theorem zeros_hd : hdOf (List.replicate 64 0) = ⟨0, 0, 0, 0, 0⟩ ∧ hdB (List.replicate 64 0) = true := by
  unfold hdOf hdB
  rw [numAt_zero (i := 0) (by omega), numAt_zero (i := 8) (by omega), numAt_zero (i := 16) (by omega), numAt_zero (i := 24) (by omega), numAt_zero (i := 32) (by omega), numAt_zero (i := 56) (by omega)]
  exact ⟨rfl, rfl⟩
theorem readDk_zero {n i : Nat} (h : i < n) : readDk (zeroDisk n) i = List.replicate 64 0 := by
  simp [readDk, zeroDisk, readFrom, List.getD_eq_getElem?_getD, h]
def hd0 : Value := .agg #[.int .u64 0, .int .u64 0, .int .u64 0, .int .u64 0, .int .u64 0]
theorem LogAt.ofFresh {w : World} {p dp n : Nat} (hd : DiskAt B w dp (zeroDisk n)) (hn : 3 ≤ n) (hp : Blk w p 97 #[.pointer (some ⟨dp, 0, none⟩), .bool false, .int .u64 0, .int .u64 0, .slice none 0 0, .slice none 0 0, .int .i64 0, .int .i64 0, .bool false]) (hB : B ≤ p) : LogAt B w p dp (freshG (zeroDisk n)) :=
  ⟨.slice none 0 0, [], .slice none 0 0, hp, hB, hd, ⟨World.ownsRow_nil _ _ _ _, rfl⟩, World.ownsRow_nil _ _ _ _, freshG_ok (by simpa [zeroDisk] using hn)⟩
set_option maxRecDepth 100000 in
set_option maxHeartbeats 4000000 in
theorem f31_fresh (w : World) (dp n : Nat) (h : DiskAt B w dp (zeroDisk n)) (hn : 3 ≤ n) (hn2 : n ≤ 65536) (hB : B ≤ w.heap.size) :
    Calls Tryz.prog 31 #[.pointer (some ⟨dp, 0, none⟩)] w fun e w' => ∃ p, e = .returned (.tuple #[.pointer (some ⟨p, 0, none⟩), .int .i64 0]) ∧ LogAt B w' p dp (telG (freshG (zeroDisk n)) 0) ∧ Mut B [91, 93, 95, 97] w w' := by
  have c25 := f25_calls w dp _ h
  have c47 := fun W (hx : Ext w W) => f47_calls W dp _ (h.ext hx)
  have c48 := fun W (hx : Ext w W) (i : Nat) (hi : i < n) => f48_up W dp i _ (h.ext hx) (by simpa [zeroDisk] using hi) rfl
  rw [show (zeroDisk n).kept.length = n by simp [zeroDisk]] at c47
  rw [show (zeroDisk n).down = false from rfl] at c25
  have c49 := fun W b (hb : Blk W b 93 (bytesV (List.replicate 64 0)).toArray) => f49_calls W b 93 _ hb (by simp)
  rw [zeros_hd.1, zeros_hd.2] at c49
  have C25 := Lib.hid c25
  have C47 := Lib.hid c47
  have C48 := Lib.hid c48
  have C49 := Lib.hid c49
  have H := Lib.hid h
  clear h c25 c47 c48 c49
  have hnI : (1 : Int) < (n : Int) := by omega
  have hnI0 : (0 : Int) < (n : Int) := by omega
  go_enter Tryz.func31, Tryz.ntmps31
  go_wp2_with (go_at_call 25; refine C25.out.mono ?_; rintro e w' ⟨rfl, rfl⟩)
  generalize hw1 : ((w.alloc (.cells #[.pointer (some ⟨dp, 0, none⟩), .bool false, .int .u64 0, .int .u64 0, .slice none 0 0, .slice none 0 0, .int .i64 0, .int .i64 0, .bool false] 97)).alloc (.cells #[.int .u64 0, .int .u64 0, .int .u64 0, .int .u64 0, .int .u64 0] 99)) = w1
  have P : Blk w1 w.heap.size 97 #[.pointer (some ⟨dp, 0, none⟩), .bool false, .int .u64 0, .int .u64 0, .slice none 0 0, .slice none 0 0, .int .i64 0, .int .i64 0, .bool false] := by rw [← hw1]; exact (Blk.new w 97 _).alloc _
  have Q : Blk w1 (w.heap.size + 1) 99 #[.int .u64 0, .int .u64 0, .int .u64 0, .int .u64 0, .int .u64 0] := by rw [← hw1]; simpa using Blk.new (w.alloc _) 99 _
  have X : Ext w w1 := by rw [← hw1]; exact (Ext.rfl'.alloc _).alloc _
  have PP := Lib.hid P
  have QQ := Lib.hid Q
  have XX := Lib.hid X
  clear hw1 P Q X
  go_loopg [6] 2 (fun m iv wr => ∃ k : Nat, k ≤ 2 ∧ m = 2 - k ∧ iv = .int .i64 k ∧ Ext w1 wr)
  case atStart => exact ⟨0, by omega, rfl, rfl, Ext.rfl'⟩
  case round =>
    obtain ⟨k, hk, hgk, rfl, hx⟩ := hrel
    have HG := Lib.hid hgk
    have X2 := Lib.hid (XX.out.trans hx)
    have q := QQ.out.ext hx
    have p := PP.out.ext hx
    have Q1 := Lib.hid q
    have P1 := Lib.hid p
    obtain ⟨q1, q2, q3⟩ := q.rules
    have HX := Lib.hid hx
    clear hgk hx q p
    by_cases hlt : k < 2
    · have hki : (k : Int) < 2 := by omega
      have hkn : (k : Int) < n := by omega
      have hkn2 : k < n := by omega
      have D47 := Lib.hid (C47.out wr X2.out)
      have D48 := C48.out wr X2.out k hkn2
      rw [readDk_zero hkn2] at D48
      have D48 := Lib.hid D48
      go_wp2_with (first | (go_at_call 47; refine D47.out.mono ?_; rintro e w' ⟨rfl, rfl⟩; clear D47) | (go_at_call 48; refine D48.out.mono ?_; rintro e w2 ⟨b2, rfl, hb2, hx2⟩; have D49 := Lib.hid (C49.out w2 b2 hb2); have HX2 := Lib.hid hx2; clear hb2 hx2 D48) | (go_at_call 49; refine D49.out.mono ?_; rintro e w3 ⟨rfl, hx3⟩; have HX3 := Lib.hid hx3; have q4 := (Q1.out.ext HX2.out).ext hx3; obtain ⟨y1, y2, y3⟩ := q4.rules; unfold HdV; clear D49 hx3 q4 q1 q2 q3))
      go_roundg (2 - (k + 1))
      case measure => rw [HG.out]; omega
      case rel => exact ⟨k + 1, by omega, rfl, by go_num, ((HX.out.trans HX2.out).trans HX3.out).alloc _⟩
    · have hki : ¬ (k : Int) < 2 := by omega
      have D50 := Lib.hid (f50_fresh wr w.heap.size dp _ (LogAt.ofFresh (H.out.ext X2.out) hn P1.out hB))
      have HBX := Lib.hid (Nat.le_trans hB X2.out.size)
      go_wp2_with (first | (go_at_call 50; refine D50.out.mono ?_; rintro e w2 ⟨rfl, hl2, hm2⟩; have D51 := f51_calls w2 w.heap.size dp 0 _ hl2 (Nat.le_trans HBX.out hm2.size) ⟨rfl, rfl⟩ (by simp [freshG, huge_is]) (Nat.zero_le _); have HM2 := Lib.hid hm2; rw [show ((0 : Nat) : Int) = 0 from rfl] at D51; have D51 := Lib.hid D51; clear D50 hl2 hm2) | (go_at_call 51; refine D51.out.mono ?_; rintro e w3 ⟨rfl, hl3, hm3⟩; have HL3 := Lib.hid hl3; have HM3 := Lib.hid hm3; clear D51 hl3 hm3))
      go_ret2
      exact ⟨_, rfl, HL3.out, (X2.out.mut.trans (HM2.out.mono (by simp))).trans HM3.out⟩
end Go.Proofs.YtpjodgoljocnlaaGreatDoor
