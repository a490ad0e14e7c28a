/- wal.lay, wal.take: eight bytes. -/
import Derived.Test.YtpjodgoljocnlaaGreatDoorArr
namespace Go.Proofs.YtpjodgoljocnlaaGreatDoor
open Go Go.RowKit
variable {B e' : Nat}
def fromBe : List UInt8 → Nat
  | l => l.foldl (fun v c => v * 256 + c.toNat) 0
theorem fromBe_snoc (l : List UInt8) (c : UInt8) : fromBe (l ++ [c]) = fromBe l * 256 + c.toNat := by simp [fromBe]
theorem foldBe_lt : ∀ (l : List UInt8) (a n : Nat), a < 256 ^ n → l.foldl (fun v c => v * 256 + c.toNat) a < 256 ^ (n + l.length)
  | [], a, n, h => by simpa using h
  | c :: l, a, n, h => by
    have hc := c.toNat_lt
    have := foldBe_lt l (a * 256 + c.toNat) (n + 1) (by rw [Nat.pow_succ]; omega)
    rw [List.foldl_cons, List.length_cons, show n + (l.length + 1) = n + 1 + l.length by omega]
    exact this
theorem fromBe_lt (l : List UInt8) : fromBe l < 256 ^ l.length := by
  have := foldBe_lt l 0 0 (by simp)
  rw [Nat.zero_add] at this; exact this
theorem fromBe_take_lt {l : List UInt8} {k : Nat} (hk : k ≤ 7) : fromBe (l.take k) < 72057594037927936 := by
  have h := fromBe_lt (l.take k)
  have : (l.take k).length ≤ 7 := by simp; omega
  have h2 : 256 ^ (l.take k).length ≤ 256 ^ 7 := Nat.pow_le_pow_right (by omega) this
  omega
theorem or_byte {q c : Nat} (hq : q < 72057594037927936) (hc : c < 256) : Value.int .u64 (bits .or .u64 ((q : Int) * 256) (c : Int)) = .int .u64 ((q * 256 + c : Nat) : Int) := by
  have h := bits_or_u64_nat (q * 256) c (by omega) (by omega)
  rw [Int.natCast_mul] at h
  have e : q * 256 ||| c = q * 256 + c := by
    have := Nat.shiftLeft_add_eq_or_of_lt (show c < 2 ^ 8 by omega) q
    rw [Nat.shiftLeft_eq] at this
    exact this.symm
  rw [e] at h
  exact congrArg (Value.int .u64) h
set_option maxRecDepth 100000 in
set_option maxHeartbeats 1000000 in
theorem f77_calls (w : World) (A : Option Addr) (n c : Nat) (bs : List UInt8) (hr : rowAt B e' w A (bytesV bs)) (hl : bs.length = n) (hn : 8 ≤ n) (hc : n ≤ c) (hm : c ≤ maxLen) :
    Calls Tryz.prog 77 #[.slice A n c] w fun e w' => e = .returned (.int .u64 (fromBe (bs.take 8))) ∧ w = w' := by
  obtain ⟨b, o, rfl, _, hcell⟩ := hr (by intro h; have := congrArg List.length h; rw [bytesV_length, hl] at this; simp at this; omega)
  unfold maxLen at hm
  have hn' : (8 : Int) ≤ (c : Int) := by omega
  go_enter Tryz.func77, Tryz.ntmps77
  go_wp2
  go_loopg [3, 9] 8 (fun m vv iv wr => ∃ k : Nat, k ≤ 8 ∧ m = 8 - k ∧ iv = .int .i64 k ∧ vv = .int .u64 (fromBe (bs.take k)) ∧ wr = w)
  case atStart => exact ⟨0, by omega, by omega, rfl, rfl, rfl⟩
  case round =>
    obtain ⟨k, hk, hgk, rfl, rfl, rfl⟩ := hrel
    have HG := Lib.hid hgk
    clear hgk
    by_cases hlt : k < 8
    · have hkb : k < bs.length := by omega
      have hc1 := hcell k _ (bytesV_get hkb)
      have hfl := fromBe_take_lt (l := bs) (k := k) (by omega)
      have hst : fromBe (bs.take (k + 1)) = fromBe (bs.take k) * 256 + bs[k].toNat := by rw [List.take_succ_eq_append_getElem hkb, fromBe_snoc]
      have HST := Lib.hid hst
      have HC := Lib.hid hcell
      have hb := bs[k].toNat_lt
      generalize hq : fromBe (bs.take k) = q at *
      have HQ := Lib.hid hq
      have HL := Lib.hid hl
      clear hst hcell hq hl
      have hki : (k : Int) < 8 := by omega
      go_wp2
      go_roundg (8 - (k + 1))
      case measure => rw [HG.out]; omega
      case rel => exact ⟨k + 1, by omega, rfl, by go_num, by rw [HST.out, or_byte hfl hb], rfl⟩
    · have hke : k = 8 := by omega
      subst hke
      clear hcell hl
      go_wp2
      go_ret
      exact ⟨rfl, rfl⟩

/-! lay -/
def be8 (v : Nat) : List UInt8 := (List.range 8).map fun i => UInt8.ofNat (v / 2 ^ (56 - 8 * i))
theorem be8_length (v : Nat) : (be8 v).length = 8 := by simp [be8]
/-- only block g has turned -/
abbrev Only (w w' : World) (g : Nat) : Prop := Grew w w' (some g)
theorem Only.rfl' {w : World} {g : Nat} : Only w w g := ⟨World.grownBy.refl w _, fun b c e fr h => ⟨c, h⟩⟩
theorem Only.set {w w' : World} {g : Nat} (h : Only w w' g) (i : Nat) (u : Value) : Only w (w'.setCell ⟨g, i, none⟩ u) g :=
  ⟨⟨h.by_.os, h.by_.tape, h.by_.output, by simpa [World.setCell] using h.by_.size, fun b hb hne => (Below.heap_setCell w' ⟨g, i, none⟩ u b (fun e => hne (by subst e; rfl))).trans (h.by_.block b hb hne)⟩,
    fun b c e fr hb => by
      obtain ⟨c', h1⟩ := h.kinded b c e fr hb
      exact heap_set_type h1⟩
theorem Only.trans {a b c : World} {g : Nat} (h : Only a b g) (k : Only b c g) : Only a c g :=
  ⟨⟨k.by_.os.trans h.by_.os, k.by_.tape.trans h.by_.tape, k.by_.output.trans h.by_.output, Nat.le_trans h.by_.size k.by_.size, fun i hi hne => (k.by_.block i (Nat.lt_of_lt_of_le hi h.by_.size) hne).trans (h.by_.block i hi hne)⟩,
    fun i c e fr hb => by
      obtain ⟨c', h1⟩ := h.kinded i c e fr hb
      exact k.kinded i c' e fr h1⟩
theorem Only.ext {a w w' : World} {g : Nat} (h : Only w w' g) (hx : Ext a w) (hg : a.heap.size ≤ g) : Ext a w' := Below.grown hx h.by_ hx.size fun k hk => by injection hk with hk; omega
theorem spl_snoc {l vs : List Value} {off : Nat} {v : Value} (h : off + vs.length < l.length) : spl l off (vs ++ [v]) = (spl l off vs).set (off + vs.length) v := by
  simp only [spl, List.length_append, List.length_singleton]
  have h1 : (l.take off ++ vs).length = off + vs.length := by simp; omega
  rw [List.set_append_right _ _ (by rw [h1]; omega), h1, Nat.sub_self]
  rw [List.drop_eq_getElem_cons (i := off + vs.length) (by omega)]
  simp [List.append_assoc, Nat.add_assoc]
theorem be8_get {v k : Nat} (hk : k < 8) : (be8 v)[k]'(by rw [be8_length]; exact hk) = UInt8.ofNat (v / 2 ^ (56 - 8 * k)) := by simp [be8]
theorem be8_val {v k : Nat} (hk : k < 8) : Value.int .u8 (((be8 v)[k]'(by rw [be8_length]; exact hk)).toNat : Int) = .int .u8 ((v : Int) / 2 ^ (56 - 8 * k) % 256) := by
  rw [be8_get hk]
  congr 1
theorem be8_take {v k : Nat} (hk : k < 8) : bytesV ((be8 v).take (k + 1)) = bytesV ((be8 v).take k) ++ [.int .u8 ((v : Int) / 2 ^ (56 - 8 * k) % 256)] := by
  rw [List.take_succ_eq_append_getElem (by rw [be8_length]; exact hk), bytesV_append, ← be8_val hk]; rfl
set_option maxRecDepth 100000 in
set_option maxHeartbeats 1000000 in
theorem f81_calls (w : World) (g off n c v : Nat) (cur : Array Value) (hb : Blk w g 5 cur) (hf : off + 8 ≤ cur.size) (hn : 8 ≤ n) (hv : v < 18446744073709551616) :
    Calls Tryz.prog 81 #[.slice (some ⟨g, off, none⟩) n c, .int .u64 v] w fun e w' => e = .returned (.tuple #[]) ∧ Blk w' g 5 (spl cur.toList off (bytesV (be8 v))).toArray ∧ Only w w' g := by
  go_enter Tryz.func81, Tryz.ntmps81
  go_wp2
  go_loopg [5] 8 (fun m iv wr => ∃ k : Nat, k ≤ 8 ∧ m = 8 - k ∧ iv = .int .i64 k ∧ Blk wr g 5 (spl cur.toList off (bytesV ((be8 v).take k))).toArray ∧ Only w wr g)
  case atStart => exact ⟨0, by omega, by omega, rfl, by simpa [spl, bytesV] using hb, Only.rfl'⟩
  case round =>
    obtain ⟨k, hk, hgk, rfl, hbk, hon⟩ := hrel
    have HG := Lib.hid hgk
    have HB := Lib.hid hbk
    have HO := Lib.hid hon
    obtain ⟨r1, r2, r3⟩ := hbk.rules
    clear hgk hbk hon
    by_cases hlt : k < 8
    · have hsome : ∃ x, (spl cur.toList off (bytesV ((be8 v).take k)))[off + k]? = some x := by
        refine ⟨_, List.getElem?_eq_getElem (h := ?_)⟩
        rw [spl_length] <;> simp [be8_length] <;> omega
      obtain ⟨x, hx⟩ := hsome
      have hc1 : wr.cell? ⟨g, off + k, none⟩ = some x := by rw [r1]; simpa using hx
      have hki : (k : Int) < 8 := by omega
      clear r1
      go_wp2
      go_roundg (8 - (k + 1))
      case measure => rw [HG.out]; omega
      case rel =>
        refine ⟨k + 1, by omega, rfl, by go_num, ?_, HO.out.set _ _⟩
        have hlen : (bytesV ((be8 v).take k)).length = k := by simp [be8_length]; omega
        have h2 := HB.out.set_ (off + k) (.int .u8 ((v : Int) / 2 ^ (56 - 8 * k) % 256))
        have h3 := spl_snoc (l := cur.toList) (vs := bytesV ((be8 v).take k)) (off := off) (v := .int .u8 ((v : Int) / 2 ^ (56 - 8 * k) % 256)) (by rw [hlen]; simp; omega)
        rw [hlen] at h3
        rw [be8_take hlt, h3]
        simpa using h2
    · have hke : k = 8 := by omega
      subst hke
      have hlast : (be8 v).take 8 = be8 v := List.take_of_length_le (by rw [be8_length]; omega)
      have HL := Lib.hid hlast
      clear hlast
      go_wp2
      go_end0
      exact ⟨rfl, by have := HB.out; rw [HL.out] at this; exact this, HO.out⟩
end Go.Proofs.YtpjodgoljocnlaaGreatDoor
