/- Logs by value: held against each other (armoirehelp.Log, vault.same). -/
import Derived.Test.YtpjodgoljocnlaaGreatDoorSame
namespace Go.Proofs.YtpjodgoljocnlaaGreatDoor
open Go Go.RowKit
variable {B : Nat}
structure Lg where
  term : Nat
  vote : Int
  six : Nat
  sterm : Nat
  sdata : List UInt8
  ents : List Ent
deriving DecidableEq
/-- the numbers lie in their kinds -/
structure Lg.Fit (l : Lg) : Prop where
  term : l.term < 18446744073709551616
  vlo : -9223372036854775808 ≤ l.vote
  vhi : l.vote < 9223372036854775808
  six : l.six < 18446744073709551616
  sterm : l.sterm < 18446744073709551616
def lgCells (l : Lg) (sd ev : Value) : List Value := [.int .u64 l.term, .int .i64 l.vote, .int .u64 l.six, .int .u64 l.sterm, sd, ev]
def IsLog (B : Nat) (w : World) (v : Value) (l : Lg) : Prop :=
  ∃ sd ev, v = .agg #[.int .u64 l.term, .int .i64 l.vote, .int .u64 l.six, .int .u64 l.sterm, sd, ev] ∧ IsBytes B w sd l.sdata ∧ IsEnts B w ev l.ents ∧ l.Fit
theorem IsLog.form {w : World} {v : Value} {l : Lg} (h : IsLog B w v l) : ∃ sd ev, v = .agg #[.int .u64 l.term, .int .i64 l.vote, .int .u64 l.six, .int .u64 l.sterm, sd, ev] ∧ IsBytes B w sd l.sdata ∧ IsEnts B w ev l.ents ∧ l.Fit := h
theorem IsLog.ext {w w' : World} {v : Value} {l : Lg} (h : IsLog B w v l) (he : Ext w w') : IsLog B w' v l := by
  obtain ⟨sd, ev, h1, h2, h3, h4⟩ := h.form
  exact ⟨sd, ev, h1, h2.ext he, h3.ext he, h4⟩
/-- the whole of it, its slices in their form -/
theorem IsLog.open_ {w : World} {v : Value} {l : Lg} (h : IsLog B w v l) : ∃ D dc E ec cs, v = .agg #[.int .u64 l.term, .int .i64 l.vote, .int .u64 l.six, .int .u64 l.sterm, .slice D l.sdata.length dc, .slice E l.ents.length ec] ∧
    IsBytes B w (.slice D l.sdata.length dc) l.sdata ∧ IsEnts B w (.slice E l.ents.length ec) l.ents ∧ l.Fit ∧ l.ents.length ≤ ec ∧ ec ≤ maxLen ∧ l.sdata.length ≤ maxLen ∧ rowAt B 50 w E cs ∧ Each (IsEnt B) w cs l.ents := by
  obtain ⟨sd, ev, rfl, h2, h3, h4⟩ := h.form
  obtain ⟨D, dc, rfl, k1, k2, k3, k4⟩ := h2.form
  obtain ⟨E, ec, cs, rfl, m1, m2, m3, m4, m5⟩ := h3.form
  exact ⟨D, dc, E, ec, cs, rfl, h2, h3, h4, m1, m2, Nat.le_trans k1 k2, m4, m5⟩
/-- a log in its box -/
abbrev lgBox (l : Lg) (sd ev : Value) : Obj := .cells #[.int .u64 l.term, .int .i64 l.vote, .int .u64 l.six, .int .u64 l.sterm, sd, ev] 30
def lgB (a b : Lg) : Bool := a.term == b.term && a.vote == b.vote && a.six == b.six && a.sterm == b.sterm && a.sdata == b.sdata && entsB a.ents b.ents
theorem lgB_iff {a b : Lg} : lgB a b = true ↔ a = b := by
  cases a; cases b; simp [lgB, entsB_iff, and_assoc]

set_option maxRecDepth 100000 in
set_option maxHeartbeats 1000000 in
theorem f13_calls (w : World) (u v : Value) (a b : Lg) (hu : IsLog B w u a) (hv : IsLog B w v b) :
    Calls Tryz.prog 13 #[u, v] w fun e w' => e = .returned (.bool (lgB a b)) ∧ Ext w w' := by
  obtain ⟨D, dc, E, ec, cs, rfl, ha1, ha2, -, -, -, -, -, -⟩ := hu.open_
  obtain ⟨D', dc', E', ec', cs', rfl, hb1, hb2, -, -, -, -, -, -⟩ := hv.open_
  clear hu hv
  have c1 := fun wx (hx : Ext w wx) => f28_calls wx _ _ _ _ (ha1.ext hx) (hb1.ext hx)
  have c2 := fun wx (hx : Ext w wx) => f29_calls wx _ _ _ _ (ha2.ext hx) (hb2.ext hx)
  have C1 := Lib.hid c1
  have C2 := Lib.hid c2
  clear c1 c2 ha1 ha2 hb1 hb2
  go_enter Tryz.func13, Tryz.ntmps13
  go_wp2_with (first | (go_at_call 28; refine (C1.out _ ?_).mono ?_; rotate_left; rintro e w' ⟨rfl, rfl⟩) | (go_at_call 29; refine (C2.out _ ?_).mono ?_; rotate_left; rintro e w' ⟨rfl, hx⟩))
  all_goals first
    | exact (Ext.rfl'.alloc _).alloc _
    | (clear C1 C2
       go_ret
       first
        | exact ⟨ret_bool (by simp_all [lgB] <;> (intros; omega)), ((Ext.rfl'.alloc _).alloc _).trans hx⟩
        | exact ⟨ret_bool (by simp_all [lgB] <;> (intros; omega)), (Ext.rfl'.alloc _).alloc _⟩)
set_option maxRecDepth 100000 in
set_option maxHeartbeats 1000000 in
theorem f39_calls (w : World) (u v : Value) (a b : Lg) (hu : IsLog B w u a) (hv : IsLog B w v b) :
    Calls Tryz.prog 39 #[u, v] w fun e w' => e = .returned (.bool (lgB a b)) ∧ Ext w w' := by
  obtain ⟨D, dc, E, ec, cs, rfl, ha1, ha2, -, -, -, -, -, -⟩ := hu.open_
  obtain ⟨D', dc', E', ec', cs', rfl, hb1, hb2, -, -, -, -, -, -⟩ := hv.open_
  clear hu hv
  have c1 := fun wx (hx : Ext w wx) => f67_calls wx _ _ _ _ (ha1.ext hx) (hb1.ext hx)
  have c2 := fun wx (hx : Ext w wx) => f68_calls wx _ _ _ _ (ha2.ext hx) (hb2.ext hx)
  have C1 := Lib.hid c1
  have C2 := Lib.hid c2
  clear c1 c2 ha1 ha2 hb1 hb2
  go_enter Tryz.func39, Tryz.ntmps39
  go_wp2_with (first | (go_at_call 67; refine (C1.out _ ?_).mono ?_; rotate_left; rintro e w' ⟨rfl, rfl⟩) | (go_at_call 68; refine (C2.out _ ?_).mono ?_; rotate_left; rintro e w' ⟨rfl, hx⟩))
  all_goals first
    | exact (Ext.rfl'.alloc _).alloc _
    | (clear C1 C2
       go_ret
       first
        | exact ⟨ret_bool (by simp_all [lgB] <;> (intros; omega)), ((Ext.rfl'.alloc _).alloc _).trans hx⟩
        | exact ⟨ret_bool (by simp_all [lgB] <;> (intros; omega)), (Ext.rfl'.alloc _).alloc _⟩)
end Go.Proofs.YtpjodgoljocnlaaGreatDoor
