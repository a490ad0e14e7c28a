/- Vault.Log; awake: a vault that is made, put into, and read. -/
import Derived.Test.YtpjodgoljocnlaaGreatDoorPut
import Derived.Test.YtpjodgoljocnlaaGreatDoorThg
namespace Go.Proofs.YtpjodgoljocnlaaGreatDoor
open Go Go.RowKit
variable {B e' : Nat}
set_option maxRecDepth 100000 in
set_option maxHeartbeats 1000000 in
theorem f17_log (w : World) (v p dp : Nat) (g : Wg) (l : Lg) (h : VaultAt B w v p dp g l) (hB : B ≤ w.heap.size) (hb1 : l.sdata.length ≤ big) (hb2 : sumLen l.ents ≤ big) (hb3 : l.ents.length ≤ big) :
    Calls Tryz.prog 17 #[.pointer (some ⟨v, 0, none⟩)] w fun e w' => ∃ u, e = .returned u ∧ IsLog B w' u l ∧ Ext w w' := by
  obtain ⟨sd, ev, h1, h2, h3, h4, h5, h6⟩ := h.form
  have hl : IsLog B w (.agg #[.int .u64 l.term, .int .i64 l.vote, .int .u64 l.six, .int .u64 l.sterm, sd, ev]) l := ⟨_, _, rfl, h3, h4, h5⟩
  obtain ⟨S, sc, rfl, -, -, -, -⟩ := h3.form
  obtain ⟨T, tc, _, rfl, -, -, -, -, -⟩ := h4.form
  have c46 := fun W (hx : Ext w W) => f46_calls W _ l (hl.ext hx) (Nat.le_trans hB hx.size) hb1 hb2 hb3
  have C46 := Lib.hid c46
  obtain ⟨r1, r2, r3⟩ := h1.rules
  unfold VtCells at r1
  clear h h1 h2 h3 h4 h5 h6 hl c46 hb1 hb2 hb3
  go_enter Tryz.func17, Tryz.ntmps17
  go_wp2_with (go_at_call 46; refine (C46.out _ (Ext.rfl'.alloc _)).mono ?_; rintro e w1 ⟨v1, rfl, hl1, hx1⟩; obtain ⟨sd1, ev1, rfl, g1, g2, g3⟩ := hl1.form; obtain ⟨S1, n1, rfl, -, -, -, -⟩ := g1.form; obtain ⟨T1, m1, _, rfl, -, -, -, -, -⟩ := g2.form; have GG := Lib.hid (And.intro g1 (And.intro g2 g3)); have b1 := (Blk.new w 30 #[.int .u64 0, .int .i64 0, .int .u64 0, .int .u64 0, .slice none 0 0, .slice none 0 0]).ext hx1; obtain ⟨s1, s2, s3⟩ := b1.rules; have B1 := Lib.hid b1; have X1 := Lib.hid ((Ext.rfl'.alloc _).trans hx1); clear hl1 g1 g2 g3 b1 hx1 r1 r2 r3 C46)
  refine bodyPost_ret (v := .agg #[.int .u64 l.term, .int .i64 l.vote, .int .u64 l.six, .int .u64 l.sterm, .slice S1 l.sdata.length n1, .slice T1 l.ents.length m1]) (by simp [results, Tryz.results17, go_sem, s1]) rfl ?_
  have m : Mut B [30] w1 _ := ((((((Mut.rfl' (w := w1)).put B1.out (by simp) hB 0 none (.int .u64 l.term)).put B1.out (by simp) hB 1 none (.int .i64 l.vote)).put B1.out (by simp) hB 2 none (.int .u64 l.six)).put B1.out (by simp) hB 3 none (.int .u64 l.sterm)).put B1.out (by simp) hB 4 none (.slice S1 l.sdata.length n1)).put B1.out (by simp) hB 5 none (.slice T1 l.ents.length m1)
  refine ⟨_, rfl, ⟨_, _, rfl, GG.out.1.mut m (by simp), GG.out.2.1.mut m (by simp) (by simp), GG.out.2.2⟩, ?_⟩
  repeat (first | (with_reducible exact X1.out) | (refine Ext.setCell ?_ (by simp) _))
def e1 : Ent := ⟨1, 1, [120]⟩
def lg1 : Lg := ⟨2, 1, 0, 0, [], [e1]⟩
def lw1 (k : Nat) : List (List UInt8) := thingsL lg0 lg1 k
theorem lw1_len (k : Nat) (h : k = 1 ∨ k = 2) : (lw1 k).flatten.length ≤ 32768 ∧ secs (lw1 k).flatten.length ≤ 10 ∧ (lw1 k).length ≤ 100 := by
  rcases h with rfl | rfl <;> decide +kernel
theorem lg1_right : rightB lg1 = true := by decide +kernel
theorem lg1_same : lgB lg0 lg1 = false := by decide +kernel
theorem f41_lg1 (w : World) (u v : Value) (k : Nat) (hk : k = 1 ∨ k = 2) (hu : IsLog B w u lg0) (hv : IsLog B w v lg1) (hB : B ≤ w.heap.size) :
    Calls Tryz.prog 41 #[u, v, .int .u64 k] w fun e w' => ∃ r, e = .returned r ∧ OwnRecs B w.heap.size w' r [(lw1 k).flatten] ∧ Ext w w' :=
  f41_one w u v k lg0 lg1 (lw1 k) hu hv hB (lw1_len k hk).1 (Nat.le_trans (lw1_len k hk).2.2 (by omega)) fun W hx =>
    f71_first W u v k lg0 lg1 (hu.ext hx) (hv.ext hx) (by omega) (by decide) (Nat.le_trans hB hx.size) (by decide) (by decide) (by decide) (by decide) rfl rfl rfl rfl
theorem g1_ring (n : Nat) : (g1 n).ring = n - 2 := by
  show (telD (freshG (zeroDisk n)) 0).kept.length - 2 = n - 2
  rw [telD_len]
  simp [freshG, zeroDisk]
theorem g1_used (n : Nat) : (g1 n).used = 0 := rfl
theorem g1_wait (n : Nat) : (g1 n).d.wait.length ≤ 1 := by
  show (telD (freshG (zeroDisk n)) 0).wait.length ≤ 1
  simp [telD, flD, writeDk, freshG, zeroDisk]
theorem f16_lg1 (w : World) (v p dp : Nat) (u : Value) (h : VaultAt B w v p dp (g1 2000) lg0) (hu : IsLog B w u lg1) (hB : B ≤ w.heap.size) :
    Calls Tryz.prog 16 #[.pointer (some ⟨v, 0, none⟩), u] w fun e w' => e = .returned .nilIface ∧ VaultAt B w' v p dp (syncG (appAll (g1 2000) [(lw1 2).flatten])) lg1 ∧ Mut B [91, 93, 95, 97, 25, 3, 74] w w' := by
  have hz : ∀ W, IsLog B W zeroLogV lg0 := fun W => ⟨_, _, rfl, IsBytes.nil _, IsSlice.nil, lg0_fit⟩
  refine f16_more w v p dp (g1 2000) lg0 lg1 u [(lw1 1).flatten] [(lw1 2).flatten] h hu hB (g1_calm 2000) rfl lg1_right lg1_same
    (fun W hx => f41_lg1 W _ _ 1 (.inl rfl) (hz W) (hu.ext hx) (Nat.le_trans hB hx.size)) (fun W x hx hl => f41_lg1 W _ _ 2 (.inr rfl) hl (hu.ext hx) (Nat.le_trans hB hx.size))
    (fun x hx => by simp at hx; subst hx; exact (lw1_len 1 (.inl rfl)).1) (fun x hx => by simp at hx; subst hx; exact (lw1_len 2 (.inr rfl)).1) ?_ ?_ ?_ ?_ (by decide) (by decide) (by decide)
  · rw [sumSecs_one, g1_ring]; have := (lw1_len 1 (.inl rfl)).2.1; omega
  · rw [sumSecs_one, g1_ring, g1_used]; have := (lw1_len 2 (.inr rfl)).2.1; omega
  · rw [sumSecs_one]; have := (lw1_len 2 (.inr rfl)).2.1; have := g1_wait 2000; omega
  · simp [g1_first, g1_recs, huge_is]
end Go.Proofs.YtpjodgoljocnlaaGreatDoor
