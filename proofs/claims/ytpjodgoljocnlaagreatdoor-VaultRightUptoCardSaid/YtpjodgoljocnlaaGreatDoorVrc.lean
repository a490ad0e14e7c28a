/-
  PROVED: armoirelaw07.VaultRight returns true for every log that it is given, and the log reads behind the call as it read before. CONDITIONS: what it reads is of bulk at most 1048576 (the second form); the listed variable errors.errorType is tied to the program's text by the card.
-/
import Derived.Test.YtpjodgoljocnlaaGreatDoorCards
import Derived.Test.YtpjodgoljocnlaaGreatDoorTie
import Derived.Test.YtpjodgoljocnlaaGreatDoorRgt
import Derived.Test.YtpjodgoljocnlaaGreatDoorRd
import Derived.WalkKit
import Derived.ProofKit
import Derived.OpenShut
import Derived.LaidLaws
import Derived.LaidHandle
import Derived.Deep.DeepHandedRow
import Derived.Lib.LaidTab
namespace Go.Proofs.YtpjodgoljocnlaaGreatDoor
open Go Go.ChangeShapes Go.WideShapes Go.ChangeAt Go.RowKit

theorem own : ownKnob Tryz.prog.godebug = .none := by kernel_rfl

set_option maxRecDepth 100000 in
/-- WHAT THE WALKS GIVE: the same for both forms; the bound is a hypothesis. -/
theorem vrContract (H : Type) (enc : TypeId × Value → H) (W : World) (base : Nat) (args : Array Value) (ds gs : List (DataW H)) (before : List MemPlace)
    (hval : ∀ (j : Nat) t v, Tryz.f3.params[j]? = some t → args[j]? = some v → Value.okWide Tryz.prog W .any base t v)
    (hW : DataW.Whole enc Tryz.prog Tryz.f3.params.toList Rows.vaultRightSpec.vars false W args.toList ds gs before) (hk : Rows.uptoSmall H (ds ++ gs) = true) :
    Calls Tryz.prog 3 args W fun e W' => ∃ v, e = .returned v ∧ Rows.vaultRightSpec.post enc Tryz.prog Tryz.f3 false true false false W args v W' := by
  have hW' := hW
  obtain ⟨p, q, hA0, hV, rfl, hfz, hnd⟩ := hW
  have hA : DataW.TrodAll enc Tryz.prog W 0 (fun _ => true) true Tryz.f3.params.toList args.toList ds p := hA0
  rw [Tryz.params3] at hA hval
  obtain ⟨v0, vs0, d0, ds0, p0, q0, hargs, rfl, rfl, h0, r0⟩ := trodAll_cons hA
  obtain ⟨rfl, rfl, rfl⟩ := trodAll_nil r0
  obtain rfl : args = #[v0] := by cases args; simp_all
  obtain ⟨rfl, rfl⟩ := trodVars_none hV
  clear hA0
  simp only [List.append_nil] at hW' hk
  obtain ⟨l, hl, hb⟩ := log_of_trod (hval 0 30 v0 rfl rfl) h0
  have hbulk : Rows.uptoBulkAll [d0] ≤ 1048576 := of_decide_eq_true hk
  simp only [Rows.uptoBulkAll] at hbulk
  refine (f3_calls W v0 l hl (Nat.le_refl _) (by rw [big_is]; omega) (by rw [big_is]; omega)).mono fun e W' ⟨he, hx⟩ => ?_
  subst he
  have hold : ∀ x ∈ p0, x.block < W.heap.size := fun x hxp => hW'.lt x hxp
  refine ⟨_, rfl, _, _, _, [], p0, [], hW', trodAll_cons_mk (shut_bool Tryz.underlying4 true) trodAll_mk0, ?_, rfl, Ext.keptBut hx _, fun h => by cases h⟩
  have h1 := trodAll_cons_mk (trod_ext (of_decide_eq_true (by kernel_rfl)) h0 hold hx (fun b => decide (b < W.heap.size)) (fun x hxp => by simpa using hold x hxp)) (trodAll_mk0 (enc := enc) (P := Tryz.prog) (w := W') (base := 0) (spare := fun b => decide (b < W.heap.size)) (held := true))
  rw [List.append_nil] at h1
  exact h1

/-! ### a world for the witness -/
noncomputable def rtypeT : Nat := ((Tryz.prog.cutTypes.find? (·.1 == "internal/reflectlite.rtype")).map (·.2)).getD 0
noncomputable def errorT : Nat := ((List.range Tryz.prog.types.size).find? fun t => Tryz.prog.rowNamed t [101, 114, 114, 111, 114]).getD 0
noncomputable def laidWorld (os : Os) : World :=
  { World.holding Tryz.prog os ⟨#[], #[], []⟩ with heap := (World.holding Tryz.prog os ⟨#[], #[], []⟩).heap.modify 0 fun
      | .cells _ t frozen => .cells #[.iface rtypeT (.agg #[typeHandle Tryz.prog errorT])] t frozen
      | o => o }
theorem laid_met (os : Os) (args : Array Value) : laidMetH Tryz.prog Rows.vaultRightRow.laid ((laidWorld os).forCall (fun _ _ => 0) ⟨#[], args, []⟩).memory :=
  laidMetH_of_parts (laidMet_nil _ _) (by kernel_rfl)
def zeroLg : Value := .agg #[.int .u64 0, .int .i64 0, .int .u64 0, .int .u64 0, .slice .none 0 0, .slice .none 0 0]
def zeroD {H : Type} : DataW H := .agg [.agg [.lit (.int .u64 0), .lit (.int .i64 0)], .agg [.lit (.int .u64 0), .lit (.int .u64 0), .nil], .nil]
theorem reads (os : Os) {H : Type} (enc : TypeId × Value → H) : ∃ places, DataW.whole enc Tryz.prog ((laidWorld os).forCall (fun _ _ => 0) ⟨#[], #[zeroLg], []⟩).memory Tryz.f3.params.toList Rows.vaultRightSpec.vars false #[zeroLg].toList 8 = some ([zeroD], [], places) :=
  ⟨[], by kernel_rfl⟩

set_option maxRecDepth 100000 in
theorem vrLifted (os : Os) (started : os.Started) (H : Type) (enc : TypeId × Value → H) (F : Stop.Interp) :
    ReturnsInHanded {} Tryz.checked os 3 .any ((Rows.OpenSpec.upto Rows.vaultRightSpec).preRow enc Tryz.prog Tryz.f3 Rows.vaultRightUptoRow.domain false Rows.vaultRightUptoRow.laid) (((Rows.OpenSpec.upto Rows.vaultRightSpec).at F).post enc Tryz.prog Tryz.f3 false true false false) := by
  obtain ⟨places, hx⟩ := reads os enc
  refine returnsInHanded_of_row (C := Tryz.checked) (s := Rows.OpenSpec.upto Rows.vaultRightSpec) own started (by kernel_rfl) Tryz.func3
    (witness_row_at (enc := enc) (C := Tryz.checked) false (laidWorld os) #[zeroLg] rfl (by kernel_rfl) (by kernel_rfl) (by kernel_rfl)
      (OpenSpec.preRow_of_cond 8 hx (by kernel_rfl) (fun k hk => by cases hk; kernel_rfl) (by kernel_rfl) (laid_met os _))) ?_
  intro W base args ds gs before hval hW _ hcond _ hL _ _
  exact vrContract H enc W base args ds gs before hval hW (hcond _ rfl)

theorem vrSaid : Rows.VaultRightUptoSaid :=
  OpenClaim.holds_of_cond 3 Tryz.f3 rfl rfl rfl rfl rfl rfl rfl ⟨rfl, rfl, rfl, rfl, rfl⟩ rfl rfl rfl rfl rfl (by kernel_rfl) Tryz.func3 (by kernel_rfl)
    (of_decide_eq_true (by kernel_rfl)) (by unfold Func.isWrapper; first | (rw [if_pos (by decide +kernel)]; kernel_rfl) | (rw [if_neg (by decide +kernel)]; exact ⟨rfl, rfl⟩))
    (fun os started H enc _ F => by rw [OpenClaim.pre_eq_preRow]; exact vrLifted os started H enc F)

theorem vrPlain (f : FuncId) (fn : Func) (hf : Tryz.pinned.checked.prog.funcNamed "armoire/armoirelaw07.VaultRight" = some f) (hfn : Tryz.pinned.checked.prog.funcs[f]? = some fn) :
    true = Tryz.pinned.checked.prog.looks [] ∧ ∀ (j : Nat) t, fn.params[j]? = some t → Tryz.pinned.checked.prog.wantsStandIn t = false := by
  obtain rfl : f = 3 := Option.some.inj ((show Tryz.prog.funcNamed "armoire/armoirelaw07.VaultRight" = some 3 by kernel_rfl).symm.trans hf) |>.symm
  obtain rfl : fn = Tryz.f3 := (Option.some.inj (Tryz.func3.symm.trans hfn)).symm
  refine ⟨by kernel_rfl, fun j t ht => ?_⟩
  rw [Tryz.params3] at ht
  obtain rfl : t = 30 := by simpa using Array.mem_of_getElem? ht
  exact (show Tryz.prog.wantsStandIn 30 = false by kernel_rfl)

/-- THE SECOND FORM's CARD -/
theorem vaultRightCard_holds : Rows.VaultRightUptoCardSaid :=
  Claim7.holds_tied_plain_at .later [] _ _ _ _ vrSaid (fun _ h => by cases h) (by kernel_rfl) (fun _ h => by cases h) vaultRightUpto_row_tie rfl ⟨rfl, rfl⟩ (by kernel_rfl) rfl vrPlain (by kernel_rfl)
end Go.Proofs.YtpjodgoljocnlaaGreatDoor
