/- Plain facts on numbers as bytes: the list of bytes that a number is, its length, and the zigzag form. No program in sight. -/
import Derived.Laws.BitsAllLaws
import Derived.Laws.BitsLemmas
namespace Go.Proofs.Ytggoigdlggenfaa.Plain
open Go

/-- The bytes of a number: seven bits each, the lowest first. -/
def enc (x : Nat) : List Nat := if x < 128 then [x] else (x % 128 + 128) :: enc (x / 128)
termination_by x
decreasing_by omega

def encI (x : Int) : List Int := (enc x.toNat).map (fun (n : Nat) => (n : Int))

theorem enc_lo {x : Nat} (h : x < 128) : enc x = [x] := by rw [enc, if_pos h]
theorem enc_hi {x : Nat} (h : ¬ x < 128) : enc x = (x % 128 + 128) :: enc (x / 128) := by rw [enc, if_neg h]

theorem encI_lo {x : Int} (h0 : 0 ≤ x) (h : x < 128) : encI x = [x] := by
  unfold encI; rw [enc_lo (by omega)]; simp; omega
theorem encI_hi {x : Int} (h0 : 0 ≤ x) (h : 128 ≤ x) : encI x = (x % 128 + 128) :: encI (x / 128) := by
  unfold encI; rw [enc_hi (by omega)]
  rw [List.map_cons]
  congr 1
  · have : ((x.toNat : Nat) : Int) = x := Int.toNat_of_nonneg h0
    omega
  · congr 2; omega

theorem enc_pos (x : Nat) : 1 ≤ (enc x).length := by
  by_cases h : x < 128
  · rw [enc_lo h]; simp
  · rw [enc_hi h]; simp

theorem enc_mono (n : Nat) : ∀ x y : Nat, x ≤ n → y ≤ x → (enc y).length ≤ (enc x).length := by
  induction n with
  | zero => intro x y hx hy; obtain rfl : x = 0 := by omega
            obtain rfl : y = 0 := by omega
            exact Nat.le_refl _
  | succ n ih =>
    intro x y hx hy
    by_cases h : y < 128
    · rw [enc_lo h]; exact enc_pos x
    · have h' : ¬ x < 128 := by omega
      rw [enc_hi h, enc_hi h']
      have := ih (x / 128) (y / 128) (by omega) (by omega)
      simpa using this

theorem enc_len_le (j : Nat) : ∀ x : Nat, x < 128 ^ (j + 1) → (enc x).length ≤ j + 1 := by
  induction j with
  | zero => intro x h; rw [enc_lo (by simpa using h)]; simp
  | succ j ih =>
    intro x h
    by_cases hx : x < 128
    · rw [enc_lo hx]; simp
    · rw [enc_hi hx]
      have : x / 128 < 128 ^ (j + 1) := by
        rw [Nat.div_lt_iff_lt_mul (by decide)]
        rw [Nat.pow_succ] at h; exact h
      have := ih _ this
      simpa using this

theorem enc_len10 {x : Nat} (h : x < 18446744073709551616) : (enc x).length ≤ 10 :=
  enc_len_le 9 x (Nat.lt_of_lt_of_le h (by decide))

theorem enc_pair (c : Nat) : (enc (2 * c)).length = (enc (2 * c + 1)).length := by
  by_cases h : 2 * c < 128
  · rw [enc_lo h, enc_lo (by omega)]; rfl
  · rw [enc_hi (x := 2 * c) h, enc_hi (x := 2 * c + 1) (by omega)]
    have : (2 * c) / 128 = (2 * c + 1) / 128 := by omega
    rw [this]; simp

set_option maxRecDepth 10000 in
theorem or128 : ∀ a : Fin 256, (a.val ||| 128) = a.val % 128 + 128 := by decide

theorem bits_or128 (x : Int) : Go.bits .or .u8 (x % 256) 128 = x % 128 + 128 := by
  rw [u8_or (x % 256) 128 (by omega) (by omega) (by omega) (by omega)]
  have := or128 ⟨(x % 256).toNat, by omega⟩
  simp only at this
  have e : (128 : Int).toNat = 128 := rfl
  rw [e, this]
  omega

/-- The zigzag form of a signed number. -/
def zig (c : Int) : Int := if 0 ≤ c then 2 * c else -2 * c - 1

theorem zig_bounds {c : Int} (h0 : -9223372036854775808 ≤ c) (h1 : c ≤ 9223372036854775807) : 0 ≤ zig c ∧ zig c < 18446744073709551616 := by
  unfold zig; split <;> omega

theorem u64_xor_zero (a : Int) (h0 : 0 ≤ a) (h1 : a < 18446744073709551616) : Go.bits .xor .u64 a 0 = a := by
  rw [u64_xor a 0 h0 h1 (by omega) (by omega)]
  simp; omega

theorem xor_ones (a : Nat) (h : a < 2 ^ 64) : a ^^^ (2 ^ 64 - 1) = 2 ^ 64 - 1 - a := by
  have h1 : a ^^^ (2 ^ 64 - 1) = (BitVec.ofNat 64 a ^^^ BitVec.allOnes 64).toNat := by
    rw [BitVec.toNat_xor, BitVec.toNat_ofNat, BitVec.toNat_allOnes, Nat.mod_eq_of_lt h]
  rw [h1, BitVec.xor_allOnes, BitVec.toNat_not, BitVec.toNat_ofNat, Nat.mod_eq_of_lt h]

theorem u64_xor_ones (a : Int) (h0 : 0 ≤ a) (h1 : a < 18446744073709551616) : Go.bits .xor .u64 a 18446744073709551615 = 18446744073709551615 - a := by
  rw [u64_xor a 18446744073709551615 h0 h1 (by omega) (by omega)]
  have := xor_ones a.toNat (by omega)
  have e : (18446744073709551615 : Int).toNat = 2 ^ 64 - 1 := rfl
  rw [e, this]
  omega

theorem wrap_u64 (n : Int) : IntKind.u64.wrap n = n % 18446744073709551616 := by simp [IntKind.wrap, IntKind.bits, IntKind.signed]

theorem zig_bits (c : Int) (h0 : -9223372036854775808 ≤ c) (h1 : c ≤ 9223372036854775807) :
    Go.bits .xor .u64 (IntKind.u64.wrap ((IntKind.u64.wrap c) * 2)) (IntKind.u64.wrap (c / 9223372036854775808)) = zig c := by
  unfold zig
  by_cases h : 0 ≤ c
  · rw [if_pos h]
    have e : c / 9223372036854775808 = 0 := by omega
    rw [e]
    have e2 : IntKind.u64.wrap (0 : Int) = 0 := by rw [wrap_u64]; rfl
    have e3 : IntKind.u64.wrap ((IntKind.u64.wrap c) * 2) = 2 * c := by rw [wrap_u64, wrap_u64]; omega
    rw [e2, e3, u64_xor_zero _ (by omega) (by omega)]
  · rw [if_neg h]
    have e : c / 9223372036854775808 = -1 := by omega
    rw [e]
    have e2 : IntKind.u64.wrap (-1 : Int) = 18446744073709551615 := by rw [wrap_u64]; rfl
    have e3 : IntKind.u64.wrap ((IntKind.u64.wrap c) * 2) = 2 * c + 18446744073709551616 := by rw [wrap_u64, wrap_u64]; omega
    rw [e2, e3, u64_xor_ones _ (by omega) (by omega)]
    omega

theorem enc_len_zig (c : Int) :
    (encI (zig c)).length = (encI (zig (-c - 1))).length := by
  unfold encI zig
  rw [List.length_map, List.length_map]
  by_cases h : 0 ≤ c
  · rw [if_pos h, if_neg (by omega)]
    have := enc_pair c.toNat
    have e1 : (2 * c).toNat = 2 * c.toNat := by omega
    have e2 : (-2 * (-c - 1) - 1).toNat = 2 * c.toNat + 1 := by omega
    rw [e1, e2]; exact this
  · rw [if_neg h, if_pos (by omega)]
    have := enc_pair (-c - 1).toNat
    have e1 : (2 * (-c - 1)).toNat = 2 * (-c - 1).toNat := by omega
    have e2 : (-2 * c - 1).toNat = 2 * (-c - 1).toNat + 1 := by omega
    rw [e1, e2]; exact this.symm

end Go.Proofs.Ytggoigdlggenfaa.Plain
