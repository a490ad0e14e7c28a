/- vault.append: records behind the others, and safe. -/
import Derived.Test.YtpjodgoljocnlaaGreatDoorApp
import Derived.Test.YtpjodgoljocnlaaGreatDoorVlt
import Derived.Test.YtpjodgoljocnlaaGreatDoorAsNil
import Derived.Test.YtpjodgoljocnlaaGreatDoorThg
namespace Go.Proofs.YtpjodgoljocnlaaGreatDoor
open Go Go.RowKit
variable {B e' : Nat}
def appAll (g : Wg) (L : List (List UInt8)) : Wg := L.foldl appG g
theorem appAll_snoc (g : Wg) {L : List (List UInt8)} {k : Nat} (h : k < L.length) : appAll g (L.take (k + 1)) = appG (appAll g (L.take k)) L[k] := by
  unfold appAll; rw [take_snoc h, List.foldl_append]; rfl
structure AppFacts (g g' : Wg) (s n : Nat) : Prop where
  ring : g'.ring = g.ring
  used : g'.used = g.used + s
  first : g'.first = g.first
  recs : g'.recs.length = g.recs.length + n
  dead : g'.dead = g.dead
  calm : Calm g.d → Calm g'.d
  wait : g'.d.wait.length = g.d.wait.length + s
  turn : g'.turn = g.turn
  kept : g'.d.kept = g.d.kept
theorem appG_facts (g : Wg) (b : List UInt8) : AppFacts g (appG g b) (secs b.length) 1 := by
  obtain ⟨h1, h2, h3, h4⟩ := appD_kept g.ring g.turn (partsB b) g.d g.fin
  refine ⟨?_, rfl, rfl, ?_, rfl, ?_, ?_, rfl, h1⟩
  · show (appD _ _ _ _ _).kept.length - 2 = _
    rw [h1]; rfl
  · simp [appG, tookG]
  · intro hc
    exact ⟨h2.trans hc.up, h3.trans hc.free⟩
  · show (appD _ _ _ _ _).wait.length = _
    rw [h4]; simp [partsB]
theorem appAll_facts (g : Wg) (L : List (List UInt8)) (k : Nat) (hk : k ≤ L.length) : AppFacts g (appAll g (L.take k)) (sumSecs (L.take k)) k := by
  induction k with
  | zero => exact ⟨rfl, by simp [appAll, sumSecs], rfl, by simp [appAll], rfl, id, by simp [appAll, sumSecs], rfl, rfl⟩
  | succ k ih =>
    have h := ih (by omega)
    have h1 := appG_facts (appAll g (L.take k)) L[k]
    rw [appAll_snoc g (by omega)]
    have hs : sumSecs (L.take (k + 1)) = sumSecs (L.take k) + secs L[k].length := by rw [take_snoc (by omega), sumSecs_append, sumSecs_one]
    exact ⟨h1.ring.trans h.ring, by rw [h1.used, h.used, hs]; omega, h1.first.trans h.first, by rw [h1.recs, h.recs]; omega, h1.dead.trans h.dead, fun c => h1.calm (h.calm c), by rw [h1.wait, h.wait, hs]; omega, h1.turn.trans h.turn, h1.kept.trans h.kept⟩
theorem own_far {w w' : World} {p base n : Nat} {v : Value} {xs : List Value} (h : w.ownsRow base 25 1 v n xs) (hf : RecFar p w w') (hfar : ∀ u, w.cell? ⟨p, 4, none⟩ = some u → ∀ k, u.ownBlock = some k → k < base) : w'.ownsRow base 25 1 v n xs := by
  refine ⟨h.1, ?_⟩
  rcases h.2 with hn | ⟨g, cap, cur, rfl, hb, hg, rest⟩
  · exact .inl hn
  · refine .inr ⟨g, cap, cur, rfl, hb, (hf.far g _ _ hg fun u hu hk => ?_).trans hg, rest⟩
    have := hfar u hu g hk
    omega
set_option maxRecDepth 100000 in
set_option maxHeartbeats 4000000 in
theorem f43_calls (w : World) (v p dp : Nat) (g : Wg) (l : Lg) (A : Option Addr) (c : Nat) (vs : List Value) (base : Nat) (L : List (List UInt8)) (h : VaultAt B w v p dp g l) (hB : B ≤ w.heap.size) (hc : Calm g.d) (hd : g.dead = false)
    (hvs : w.ownsRow base 25 1 (.slice A L.length c) L.length vs) (hE : Each (RecR B) w vs L) (hfar : ∀ u, w.cell? ⟨p, 4, none⟩ = some u → ∀ k, u.ownBlock = some k → k < base)
    (hL : ∀ x, x ∈ L → x.length ≤ 32768) (hu : g.used + sumSecs L ≤ g.ring) (hw : g.d.wait.length + sumSecs L ≤ 1048576) (hn : g.first + g.recs.length + L.length < huge) :
    Calls Tryz.prog 43 #[.pointer (some ⟨v, 0, none⟩), .slice A L.length c] w fun e w' => e = .returned .nilIface ∧ VaultAt B w' v p dp (syncG (appAll g L)) l ∧ Mut B [91, 93, 95, 97, 25, 3] w w' := by
  obtain ⟨sd, ev, h1, h2, h3, h4, h5, h6⟩ := h.form
  obtain ⟨r1, r2, r3⟩ := h1.rules
  unfold VtCells at r1
  have C44 := Lib.hid (f44_calls w p dp g h6)
  have hcm : c ≤ maxLen := by obtain ⟨_, _, e, _, k, _⟩ := own_form hvs; cases e; exact k
  have hlc : L.length ≤ c := by obtain ⟨_, _, e, k, _, _⟩ := own_form hvs; cases e; exact k
  unfold maxLen at hcm
  rw [huge_is] at hn
  have HV := Lib.hid h
  have HVS := Lib.hid hvs
  have HE := Lib.hid hE
  have HFAR := Lib.hid hfar
  have HLL := Lib.hid hL
  have HC := Lib.hid hc
  have HD := Lib.hid hd
  have H1 := Lib.hid h1
  have H6 := Lib.hid h6
  clear h h1 h3 h4 h5 h6 hvs hE hfar hL hc hd
  go_enter Tryz.func43, Tryz.ntmps43
  go_wp2_with (go_at_call 44; refine C44.out.mono ?_; rintro e w' ⟨rfl, rfl⟩; clear C44)
  go_loopg [6, 17] L.length (fun m ev iv wr => ∃ k : Nat, k ≤ L.length ∧ m = L.length - k ∧ iv = .int .i64 k ∧ ev = .nilIface ∧ LogAt B wr p dp (appAll g (L.take k)) ∧ Mut B [91, 95, 97, 25, 3] w wr ∧ RecFar p w wr)
  case atStart =>
    refine ⟨0, Nat.zero_le _, by omega, rfl, rfl, by simpa [appAll] using H6.out.ext Ext.rfl'.drew, Ext.rfl'.drew.mut, ?_⟩
    obtain ⟨_, _, _, b1, -⟩ := H6.out.form
    exact RecFar.of_mut (B := B) (T := []) Ext.rfl'.drew.mut b1 (by simp) (by simp)
  case round =>
    obtain ⟨k, hkx, hgk, rfl, rfl, hlog, hmut, hfr⟩ := hrel
    have HG := Lib.hid hgk
    have HLG := Lib.hid hlog
    have HM := Lib.hid hmut
    have HF := Lib.hid hfr
    have k1 := H1.out.mut hmut (by simp)
    obtain ⟨x1, x2, x3⟩ := k1.rules
    unfold VtCells at x1
    clear hgk hlog hmut hfr k1 r1 r2 r3
    obtain ⟨fr, fu, ff, fre, fd, fc, fw, ft, fk⟩ := appAll_facts g L k hkx
    have hO := own_far HVS.out HF.out HFAR.out
    have hEE := HE.out.ext fun c x k => RecR.mut HM.out (by simp) c x k
    have O2 := Lib.hid hO
    have E2 := Lib.hid hEE
    clear hO hEE
    by_cases hlt : k < L.length
    · obtain ⟨bb, oo, tv, rfl, hcell, hv⟩ := rec_at (B := B) (rowAt.of_own O2.out) E2.out hlt
      have hs1 : sumSecs (L.take (k + 1)) = sumSecs (L.take k) + secs L[k].length := by rw [take_snoc hlt, sumSecs_append, sumSecs_one]
      have hs2 := sumSecs_split L (k + 1)
      have C73 := f73_calls wr p dp _ _ L[k] HLG.out hv (fc HC.out) (fd.trans HD.out) (HLL.out _ (List.getElem_mem hlt)) (by rw [ff, fre, huge_is]; omega) (by rw [fu, fr]; omega) (by rw [fw]; omega) (Nat.le_trans hB HM.out.size)
      rw [← appAll_snoc g hlt] at C73
      have C73 := Lib.hid C73
      have hki : (k : Int) < L.length := by omega
      obtain ⟨A2, c2, rfl, -, -, -, -⟩ := hv.form
      clear hs1 hs2 hv fr fu ff fre fd fc fw ft fk O2 E2
      go_wp2_with (first | (go_at_call 73; refine C73.out.mono ?_; rintro e w2 ⟨rfl, hl2, hm2, hf2⟩; have L2 := Lib.hid hl2; have M2 := Lib.hid hm2; have F2 := Lib.hid hf2; clear hl2 hm2 hf2 C73) | (go_at_call 45; refine (f45_ok _ _).mono ?_; rintro e w3 ⟨rfl, rfl⟩))
      go_roundg (L.length - (k + 1))
      case measure => rw [HG.out]; omega
      case rel => exact ⟨k + 1, by omega, rfl, by go_num, rfl, L2.out, HM.out.trans (M2.out.mono (by simp)), HF.out.trans F2.out HM.out.size⟩
    · have hkk : k = L.length := by omega
      subst hkk
      have hlg := HLG.out
      rw [List.take_of_length_le (Nat.le_refl _)] at hlg fc fd
      have C62 := Lib.hid (f62_calls wr p dp _ hlg (fc HC.out) (fd.trans HD.out))
      have H1W := Lib.hid (H1.out.mut HM.out (by simp))
      clear fr fu ff fre fd fc fw ft fk O2 E2 hlg
      go_wp2_with (first | (go_at_call 62; refine C62.out.mono ?_; rintro e w2 ⟨rfl, hl2, hm2⟩; have L2 := Lib.hid hl2; have M2 := Lib.hid hm2; clear hl2 hm2 C62) | (go_at_call 45; refine (f45_ok _ _).mono ?_; rintro e w3 ⟨rfl, rfl⟩) | (go_at_call 37; refine (f37_nil _ _).mono ?_; rintro e w4 ⟨rfl, rfl⟩))
      go_ret
      have m := (HM.out.mono (T' := [91, 93, 95, 97, 25, 3]) (by simp)).trans (M2.out.mono (by simp))
      exact ⟨rfl, (HV.out.wal m L2.out (by simp)).ext (Ext.rfl'.alloc _), m.alloc _⟩
end Go.Proofs.YtpjodgoljocnlaaGreatDoor
