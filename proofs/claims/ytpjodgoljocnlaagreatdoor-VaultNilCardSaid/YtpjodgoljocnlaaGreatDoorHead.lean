/- wal.readHead. -/
import Derived.Test.YtpjodgoljocnlaaGreatDoorTell
namespace Go.Proofs.YtpjodgoljocnlaaGreatDoor
open Go Go.RowKit
variable {B e' : Nat}
/-- the number at a place of a sector -/
def numAt (bs : List UInt8) (i : Nat) : Nat := fromBe ((bs.drop i).take 8)
def hdOf (bs : List UInt8) : Hd := ⟨numAt bs 0, numAt bs 8, numAt bs 16, numAt bs 24, numAt bs 32⟩
def hdB (bs : List UInt8) : Bool := numAt bs 0 == numAt bs 56
theorem f77_blk (W : World) (b t off n c : Nat) (bs : List UInt8) (h : Blk W b t (bytesV bs).toArray) (hl : bs.length = 64) (ho : off + n = 64) (hn : 8 ≤ n) (hc : c = n) :
    Calls Tryz.prog 77 #[.slice (some ⟨b, off, none⟩) n c] W fun e w' => e = .returned (.int .u64 (numAt bs off)) ∧ w' = W := by
  subst hc
  have hr : rowAt 0 t W (some ⟨b, off, none⟩) (bytesV (bs.drop off)) := fun _ => ⟨b, off, rfl, .inr ⟨_, _, h⟩, fun i v hi => by
    rw [h.rules.1]
    simp only [bytesV, List.map_drop, List.getElem?_drop] at hi
    simpa [bytesV] using hi⟩
  exact (f77_calls W (some ⟨b, off, none⟩) c c (bs.drop off) hr (by rw [List.length_drop]; omega) hn (Nat.le_refl _) (by simp [maxLen]; omega)).mono fun e w' h => ⟨h.1, h.2.symm⟩
def HdV (h : Hd) : Array Value := #[.int .u64 h.turn, .int .u64 h.first, .int .u64 h.next, .int .u64 h.start, .int .u64 h.fin]
set_option maxRecDepth 100000 in
set_option maxHeartbeats 4000000 in
theorem f49_calls (w : World) (b t : Nat) (bs : List UInt8) (h : Blk w b t (bytesV bs).toArray) (hl : bs.length = 64) :
    Calls Tryz.prog 49 #[.slice (some ⟨b, 0, none⟩) 64 64] w fun e w' => e = .returned (.tuple #[.agg (HdV (hdOf bs)), .bool (hdB bs)]) ∧ Ext w w' := by
  have c0 := fun W (hx : Ext w W) => f77_blk W b t 0 64 64 bs (h.ext hx) hl rfl (by omega) rfl
  have c8 := fun W (hx : Ext w W) => f77_blk W b t 8 56 56 bs (h.ext hx) hl rfl (by omega) rfl
  have c16 := fun W (hx : Ext w W) => f77_blk W b t 16 48 48 bs (h.ext hx) hl rfl (by omega) rfl
  have c24 := fun W (hx : Ext w W) => f77_blk W b t 24 40 40 bs (h.ext hx) hl rfl (by omega) rfl
  have c32 := fun W (hx : Ext w W) => f77_blk W b t 32 32 32 bs (h.ext hx) hl rfl (by omega) rfl
  have c56 := fun W (hx : Ext w W) => f77_blk W b t 56 8 8 bs (h.ext hx) hl rfl (by omega) rfl
  have hpost : ∀ (e : Ending) (w' : World), e = .returned (.tuple #[.agg #[.int .u64 (numAt bs 0), .int .u64 (numAt bs 8), .int .u64 (numAt bs 16), .int .u64 (numAt bs 24), .int .u64 (numAt bs 32)], .bool (numAt bs 0 == numAt bs 56)]) ∧ Ext w w' → e = .returned (.tuple #[.agg (HdV (hdOf bs)), .bool (hdB bs)]) ∧ Ext w w' := fun e w' h => h
  refine Calls.mono (R := fun e w' => e = .returned (.tuple #[.agg #[.int .u64 (numAt bs 0), .int .u64 (numAt bs 8), .int .u64 (numAt bs 16), .int .u64 (numAt bs 24), .int .u64 (numAt bs 32)], .bool (numAt bs 0 == numAt bs 56)]) ∧ Ext w w') ?_ hpost
  clear hpost
  generalize numAt bs 0 = x0 at *
  generalize numAt bs 8 = x1 at *
  generalize numAt bs 16 = x2 at *
  generalize numAt bs 24 = x3 at *
  generalize numAt bs 32 = x4 at *
  generalize numAt bs 56 = x5 at *
  have C0 := Lib.hid c0
  have C8 := Lib.hid c8
  have C16 := Lib.hid c16
  have C24 := Lib.hid c24
  have C32 := Lib.hid c32
  have C56 := Lib.hid c56
  clear c0 c8 c16 c24 c32 c56 h hl
  go_enter Tryz.func49, Tryz.ntmps49
  go_wp2
  go_region_with (first | (go_at_call_of 77 (Value.slice (some ⟨b, 0, none⟩) 64 64); refine (C0.out _ ?_).mono ?_; (repeat (first | exact Ext.rfl' | refine Ext.drew ?_ | refine Ext.alloc ?_ _)); (rintro e w' ⟨rfl, rfl⟩)) | (go_at_call_of 77 (Value.slice (some ⟨b, 8, none⟩) 56 56); refine (C8.out _ ?_).mono ?_; (repeat (first | exact Ext.rfl' | refine Ext.drew ?_ | refine Ext.alloc ?_ _)); (rintro e w' ⟨rfl, rfl⟩)) | (go_at_call_of 77 (Value.slice (some ⟨b, 16, none⟩) 48 48); refine (C16.out _ ?_).mono ?_; (repeat (first | exact Ext.rfl' | refine Ext.drew ?_ | refine Ext.alloc ?_ _)); (rintro e w' ⟨rfl, rfl⟩)) | (go_at_call_of 77 (Value.slice (some ⟨b, 24, none⟩) 40 40); refine (C24.out _ ?_).mono ?_; (repeat (first | exact Ext.rfl' | refine Ext.drew ?_ | refine Ext.alloc ?_ _)); (rintro e w' ⟨rfl, rfl⟩)) | (go_at_call_of 77 (Value.slice (some ⟨b, 32, none⟩) 32 32); refine (C32.out _ ?_).mono ?_; (repeat (first | exact Ext.rfl' | refine Ext.drew ?_ | refine Ext.alloc ?_ _)); (rintro e w' ⟨rfl, rfl⟩)))
  all_goals
    go_wp2
    go_region_held3 (fun w' => w'.cell? ⟨w.heap.size + 1, 0, none⟩ = some (.int .u64 x0) ∧ w'.cell? ⟨w.heap.size + 1, 1, none⟩ = some (.int .u64 x1) ∧ w'.cell? ⟨w.heap.size + 1, 2, none⟩ = some (.int .u64 x2) ∧ w'.cell? ⟨w.heap.size + 1, 3, none⟩ = some (.int .u64 x3) ∧ w'.cell? ⟨w.heap.size + 1, 4, none⟩ = some (.int .u64 x4)) (go_keep)
      (first | (go_at_call 77; refine (C56.out _ ?_).mono ?_; (repeat (first | exact Ext.rfl' | refine Ext.drew ?_ | refine Ext.setCell ?_ (by simp) _ | refine Ext.alloc ?_ _)); (rintro e w' ⟨rfl, rfl⟩)))
    all_goals
      have hb : ((x0 : Int) == (x5 : Int)) = (x0 == x5) := by rw [Bool.eq_iff_iff]; simp only [beq_iff_eq]; omega
      have HB := Lib.hid hb
      clear hb
      go_wp2
      refine bodyPost_ret (v := .tuple #[.agg #[.int .u64 x0, .int .u64 x1, .int .u64 x2, .int .u64 x3, .int .u64 x4], .bool ((x0 : Int) == (x5 : Int))]) (by simp [results, Tryz.results49, go_sem]) rfl ⟨by rw [HB.out], ?_⟩
      repeat (first | exact Ext.rfl' | refine Ext.drew ?_ | refine Ext.setCell ?_ (by simp) _ | refine Ext.alloc ?_ _)
end Go.Proofs.YtpjodgoljocnlaaGreatDoor
