/- wal.Sync, wal.Cut, at a disk that is up. -/
import Derived.Test.YtpjodgoljocnlaaGreatDoorTell
namespace Go.Proofs.YtpjodgoljocnlaaGreatDoor
open Go Go.RowKit
variable {B e' : Nat}
def syncG (g : Wg) : Wg := if g.waits then { g with d := flD g.d, waits := false } else g
/-- 'waits' turned -/
theorem LogAt.wait {w : World} {p dp : Nat} {g : Wg} (h : LogAt B w p dp g) (x : Bool) : LogAt B (w.setCell ⟨p, 8, none⟩ (.bool x)) p dp { g with waits := x } ∧ Mut B [97] w (w.setCell ⟨p, 8, none⟩ (.bool x)) := by
  obtain ⟨rv, vs, pv, b1, b2, b3, b4, b5, b6⟩ := h.form
  have m : Mut B [97] w (w.setCell ⟨p, 8, none⟩ (.bool x)) := (Mut.rfl' (w := w)).put b1 (by simp) b2 8 none (.bool x)
  exact ⟨⟨rv, vs, pv, b1.set_ 8 (.bool x), b2, b3.mut m (by simp) (by simp) (by simp), b4.mut m (by simp) (by simp), own_mut b5 m (by simp), ⟨b6.ring, b6.turn, b6.next, b6.used, b6.fin, b6.len, b6.pl, b6.rcs, b6.few, b6.sum⟩⟩, m⟩
set_option maxRecDepth 100000 in
set_option maxHeartbeats 4000000 in
theorem f62_calls (w : World) (p dp : Nat) (g : Wg) (h : LogAt B w p dp g) (hc : Calm g.d) (hd : g.dead = false) :
    Calls Tryz.prog 62 #[.pointer (some ⟨p, 0, none⟩)] w fun e w' => e = .returned (.int .i64 0) ∧ LogAt B w' p dp (syncG g) ∧ Mut B [91, 93, 97] w w' := by
  obtain ⟨rv, vs, pv, b1, b2, b3, b4, b5, b6⟩ := h.form
  obtain ⟨r1, r2, r3⟩ := b1.rules
  unfold WgCells at r1
  have C57 := Lib.hid (f57_calls w p dp g h hd hc.up)
  have H := Lib.hid h
  cases hw : g.waits
  · have hg : syncG g = g := by simp [syncG, hw]
    have HG := Lib.hid hg
    rw [hw] at r1
    clear h b1 b3 b4 b5 b6 hc hd hw hg
    go_enter Tryz.func62, Tryz.ntmps62
    go_wp2_with (go_at_call 57; refine C57.out.mono ?_; rintro e w' ⟨rfl, rfl⟩; clear C57)
    go_ret
    exact ⟨rfl, by rw [HG.out]; exact H.out, Mut.rfl'⟩
  · have hg : syncG g = { g with d := flD g.d, waits := false } := by simp [syncG, hw]
    have HG := Lib.hid hg
    rw [hw] at r1
    have C80 := f80_up w dp g.d b3 hc.up hc.hitB
    rw [hc.flush] at C80
    have C80 := Lib.hid C80
    have c61 := fun w1 (hd1 : DiskAt B w1 dp (flD g.d)) (hm1 : Mut B [91, 93] w w1) => f61_calls w1 p dp { g with d := flD g.d } (h.disk hd1 hm1 (flD_len _) (by simp))
    have C61 := Lib.hid c61
    clear h b1 b3 b4 b5 b6 hc hd hw hg c61
    go_enter Tryz.func62, Tryz.ntmps62
    go_wp2_with (first | (go_at_call 57; refine C57.out.mono ?_; rintro e w' ⟨rfl, rfl⟩; clear C57) | (go_at_call 80; refine C80.out.mono ?_; rintro e w1 ⟨rfl, hd1, hm1⟩; have D61 := Lib.hid (C61.out w1 hd1 hm1); have HM1 := Lib.hid hm1; clear hd1 hm1 C80 r1 r2 r3) | (go_at_call 61; refine D61.out.mono ?_; rintro e w2 ⟨rfl, hl2, hm2, -⟩; obtain ⟨rv2, vs2, pv2, k1, -, -, -, -, -⟩ := hl2.form; obtain ⟨x1, x2, x3⟩ := k1.rules; unfold WgCells at x1; have K9 := Lib.hid (hl2.wait false); have HM2 := Lib.hid hm2; clear hl2 hm2 D61 k1))
    go_ret
    refine ⟨rfl, ?_, ((HM1.out.mono (T' := [91, 93, 97]) (by simp)).trans (HM2.out.mono (by simp))).trans (K9.out.2.mono (by simp))⟩
    rw [HG.out]; exact K9.out.1
def cutG (g : Wg) (n : Nat) : Wg := if n = g.first then syncG g else { telG g (n - g.first) with waits := false }
set_option maxRecDepth 100000 in
set_option maxHeartbeats 4000000 in
theorem f36_calls (w : World) (p dp n : Nat) (g : Wg) (h : LogAt B w p dp g) (hB : B ≤ w.heap.size) (hc : Calm g.d) (hd : g.dead = false) (ht : g.turn < huge) (h1 : g.first ≤ n) (h2 : n ≤ g.next) :
    Calls Tryz.prog 36 #[.pointer (some ⟨p, 0, none⟩), .int .u64 n] w fun e w' => e = .returned (.int .i64 0) ∧ LogAt B w' p dp (cutG g n) ∧ Mut B [91, 93, 95, 97] w w' := by
  obtain ⟨rv, vs, pv, b1, b2, b3, b4, b5, b6⟩ := h.form
  obtain ⟨r1, r2, r3⟩ := b1.rules
  unfold WgCells at r1
  have hnx := b6.next
  rw [huge_is] at hnx
  have hnn : g.next ≤ 4611686018427387904 := hnx
  have C52 := Lib.hid (f52_calls w p dp g h)
  have C44 := Lib.hid (f44_calls w p dp g h)
  have t1 : decide (n < g.first) = false := decide_eq_false (by omega)
  have t2 : decide (g.next < n) = false := decide_eq_false (by omega)
  by_cases hn : n = g.first
  · have C62 := Lib.hid (f62_calls w.drew p dp g (h.ext Ext.rfl'.drew) hc hd)
    have hg : cutG g n = syncG g := by rw [cutG, if_pos hn]
    have HG := Lib.hid hg
    have hn1 : ((n : Int) == (g.first : Int)) = true := by simp [hn]
    have hn2 : (n == g.first) = true := by simp [hn]
    clear h b1 b3 b4 b5 b6 hc hd hg hn
    go_enter Tryz.func36, Tryz.ntmps36
    go_wp2_with (first | (go_at_call 52; refine C52.out.mono ?_; rintro e w' ⟨rfl, rfl⟩; clear C52) | (go_at_call 44; refine C44.out.mono ?_; rintro e w' ⟨rfl, rfl⟩; clear C44) | (go_at_call 62; refine C62.out.mono ?_; rintro e w2 ⟨rfl, hl, hm⟩; have HL := Lib.hid hl; have HM := Lib.hid hm; clear hl hm C62))
    go_ret
    exact ⟨rfl, by rw [HG.out]; exact HL.out, (Ext.rfl'.drew.mut).trans (HM.out.mono (by simp))⟩
  · have hk : n - g.first ≤ g.recs.length := by unfold Wg.next at h2; omega
    have C57 := Lib.hid (f57_calls w.drew p dp g (h.ext Ext.rfl'.drew) hd hc.up)
    have C51 := f51_calls w.drew p dp (n - g.first) g (h.ext Ext.rfl'.drew) hB hc ht hk
    rw [show ((n - g.first : Nat) : Int) = (n : Int) - g.first by omega] at C51
    have C51 := Lib.hid C51
    have hg : cutG g n = { telG g (n - g.first) with waits := false } := by rw [cutG, if_neg hn]
    have HG := Lib.hid hg
    have hn1 : ((n : Int) == (g.first : Int)) = false := by simp; omega
    have hn2 : (n == g.first) = false := by simp [hn]
    have w1 : IntKind.u64.wrap ((n : Int) - (g.first : Int)) = (n : Int) - g.first := IntWalk.u64_in _ ⟨by omega, by omega⟩
    have w2 : IntKind.i64.wrap ((n : Int) - (g.first : Int)) = (n : Int) - g.first := IntWalk.i64_in _ ⟨by omega, by omega⟩
    clear h b1 b3 b4 b5 b6 hc hd hg hn
    go_enter Tryz.func36, Tryz.ntmps36
    go_wp2_with (first | (go_at_call 52; refine C52.out.mono ?_; rintro e w' ⟨rfl, rfl⟩; clear C52) | (go_at_call 44; refine C44.out.mono ?_; rintro e w' ⟨rfl, rfl⟩; clear C44) | (go_at_call 57; refine C57.out.mono ?_; rintro e w' ⟨rfl, rfl⟩; clear C57) | (go_at_call 51; refine C51.out.mono ?_; rintro e w3 ⟨rfl, hl3, hm3⟩; have C61 := Lib.hid (f61_calls w3 p dp _ hl3); have HM3 := Lib.hid hm3; clear hl3 hm3 C51) | (go_at_call 61; refine C61.out.mono ?_; rintro e w4 ⟨rfl, hl4, hm4, -⟩; obtain ⟨rv2, vs2, pv2, k1, -, -, -, -, -⟩ := hl4.form; obtain ⟨x1, x2, x3⟩ := k1.rules; unfold WgCells at x1; have K9 := Lib.hid (hl4.wait false); have HM4 := Lib.hid hm4; clear hl4 hm4 C61 k1))
    go_ret
    refine ⟨rfl, ?_, ((Ext.rfl'.drew.mut).trans (HM3.out.trans (HM4.out.mono (T' := [91, 93, 95, 97]) (by simp)))).trans (K9.out.2.mono (by simp))⟩
    rw [HG.out]; exact K9.out.1
end Go.Proofs.YtpjodgoljocnlaaGreatDoor
