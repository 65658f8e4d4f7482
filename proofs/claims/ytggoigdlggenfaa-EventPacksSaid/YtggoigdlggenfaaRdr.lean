/- Plain facts on reading numbers out of bytes: what a reader of bytes answers, and where it stands then. No program in sight. -/
import Derived.Test.YtggoigdlggenfaaNum
import Derived.IntWalk
namespace Go.Proofs.Ytggoigdlggenfaa.Plain
open Go Go.RowKit

/-- All are bytes. -/
def Byt (bs : List Int) : Prop := ∀ x ∈ bs, 0 ≤ x ∧ x < 256

/-- From place 'at + n' on, with v read so far: the number, where it ends, and why not. -/
def lk (bs : List Int) (at_ : Nat) : Nat → Nat → Int → Int × Int × Int
  | 0, _, _ => (0, 0, 10)
  | f + 1, n, v =>
    if at_ + n < bs.length then
      if n = 9 ∧ 1 < bs.getD (at_ + n) 0 then (0, 0, 10)
      else if bs.getD (at_ + n) 0 < 128 then
        if bs.getD (at_ + n) 0 = 0 ∧ 0 < n then (0, 0, 10) else (v + bs.getD (at_ + n) 0 % 128 * 128 ^ n, ((at_ + n + 1 : Nat) : Int), 0)
      else lk bs at_ f (n + 1) (v + bs.getD (at_ + n) 0 % 128 * 128 ^ n)
    else (0, 0, 9)

def rlook (bs : List Int) (at_ : Nat) : Int × Int × Int := lk bs at_ 10 0 0

theorem and127 (x : Int) (h0 : 0 ≤ x) (h1 : x < 256) : bits .and .u8 x 127 = x % 128 :=
  bits_mask .u8 8 (by decide) wraps_u8 7 (by decide) x h0 h1

theorem pow128 (n : Nat) : (128 : Int) ^ n = 2 ^ (7 * n) := by rw [Int.pow_mul]; rfl

theorem le_pow9 {n : Nat} (hn : n ≤ 8) : (128 : Int) ^ (n + 1) ≤ 9223372036854775808 := by
  have : n = 0 ∨ n = 1 ∨ n = 2 ∨ n = 3 ∨ n = 4 ∨ n = 5 ∨ n = 6 ∨ n = 7 ∨ n = 8 := by omega
  rcases this with rfl | rfl | rfl | rfl | rfl | rfl | rfl | rfl | rfl <;> decide

theorem pow_pos128 (n : Nat) : (0 : Int) < 128 ^ n := Int.pow_pos (by decide)

theorem or_shift_gen (q x : Int) (n : Nat) (hq0 : 0 ≤ q) (hq : q < 128 ^ n) (h0 : 0 ≤ x) (h1 : x < 256) (hb : x % 128 * 128 ^ n < 18446744073709551616) (hn : (128 : Int) ^ n ≤ 9223372036854775808) :
    bits .or .u64 q (IntKind.u64.wrap (IntKind.u64.wrap (bits .and .u8 x 127) * 2 ^ (7 * n))) = q + x % 128 * 128 ^ n := by
  have hp := pow_pos128 n
  have hm : 0 ≤ x % 128 * 128 ^ n := Int.mul_nonneg (by omega) (by omega)
  have e1 : IntKind.u64.wrap (bits .and .u8 x 127) = x % 128 := by rw [and127 x h0 h1, wrap_u64]; omega
  have e2 : IntKind.u64.wrap (x % 128 * 2 ^ (7 * n)) = x % 128 * 128 ^ n := by
    rw [← pow128, wrap_u64]; exact Int.emod_eq_of_lt hm hb
  rw [e1, e2, u64_or q _ hq0 (by omega) hm hb]
  obtain ⟨a, ha⟩ := Int.eq_ofNat_of_zero_le hq0
  obtain ⟨b, hbb⟩ := Int.eq_ofNat_of_zero_le (a := x % 128) (by omega)
  have hP : ((128 : Int) ^ n) = ((128 ^ n : Nat) : Int) := by simp
  have hmn : x % 128 * 128 ^ n = ((b * 128 ^ n : Nat) : Int) := by rw [hbb, hP]; simp
  rw [hmn, ha, Int.toNat_natCast, Int.toNat_natCast]
  have hj : (b * 128 ^ n) ||| a = b * 128 ^ n + a := by
    have hpow : (128 : Nat) ^ n = 2 ^ (7 * n) := by rw [Nat.pow_mul]
    apply nat_join (7 * n)
    · rw [hpow]; exact Nat.mul_mod_left _ _
    · rw [← hpow]; rw [ha, hP] at hq; exact_mod_cast hq
  rw [Nat.or_comm, hj]
  omega

theorem or_shift (q x : Int) (n : Nat) (hn : n ≤ 8) (hq0 : 0 ≤ q) (hq : q < 128 ^ n) (h0 : 0 ≤ x) (h1 : x < 256) :
    bits .or .u64 q (IntKind.u64.wrap (IntKind.u64.wrap (bits .and .u8 x 127) * 2 ^ (7 * n))) = q + x % 128 * 128 ^ n := by
  have h9 := le_pow9 hn
  have hp := pow_pos128 n
  have hs : (128 : Int) ^ (n + 1) = 128 ^ n * 128 := Int.pow_succ _ _
  have : x % 128 * 128 ^ n ≤ 127 * 128 ^ n := Int.mul_le_mul_of_nonneg_right (by omega) (by omega)
  exact or_shift_gen q x n hq0 hq h0 h1 (by omega) (by omega)

theorem or_shift9 (q x : Int) (hq0 : 0 ≤ q) (hq : q < 128 ^ 9) (h0 : 0 ≤ x) (h1 : x ≤ 1) :
    bits .or .u64 q (IntKind.u64.wrap (IntKind.u64.wrap (bits .and .u8 x 127) * 2 ^ (7 * 9))) = q + x % 128 * 128 ^ 9 := by
  have : x = 0 ∨ x = 1 := by omega
  refine or_shift_gen q x 9 hq0 hq h0 (by omega) ?_ (by decide)
  rcases this with rfl | rfl <;> decide

theorem next_lt (q x : Int) (n : Nat) (hq : q < 128 ^ n) : q + x % 128 * 128 ^ n < 128 ^ (n + 1) := by
  have hp := pow_pos128 n
  have hs : (128 : Int) ^ (n + 1) = 128 ^ n * 128 := Int.pow_succ _ _
  have : x % 128 * 128 ^ n ≤ 127 * 128 ^ n := Int.mul_le_mul_of_nonneg_right (by omega) (by omega)
  omega
theorem next_nonneg (q x : Int) (n : Nat) (hq : 0 ≤ q) : 0 ≤ q + x % 128 * 128 ^ n := by
  have hp := pow_pos128 n
  have hm : 0 ≤ x % 128 * 128 ^ n := Int.mul_nonneg (by omega) (by omega)
  omega

theorem lk_short {bs : List Int} {at_ f n : Nat} {v : Int} (h : ¬ at_ + n < bs.length) : lk bs at_ (f + 1) n v = (0, 0, 9) := by simp [lk, h]
theorem lk_big {bs : List Int} {at_ f n : Nat} {v x : Int} (h : at_ + n < bs.length) (hx : bs.getD (at_ + n) 0 = x) (h9 : n = 9 ∧ 1 < x) : lk bs at_ (f + 1) n v = (0, 0, 10) := by
  rw [lk, if_pos h, hx, if_pos h9]
theorem lk_zero {bs : List Int} {at_ f n : Nat} {v x : Int} (h : at_ + n < bs.length) (hx : bs.getD (at_ + n) 0 = x) (h0 : x = 0) (hn : 0 < n) : lk bs at_ (f + 1) n v = (0, 0, 10) := by
  rw [lk, if_pos h, hx, if_neg (by omega), if_pos (by omega), if_pos ⟨h0, hn⟩]
theorem lk_done {bs : List Int} {at_ f n : Nat} {v x : Int} (h : at_ + n < bs.length) (hx : bs.getD (at_ + n) 0 = x) (h9 : ¬ (n = 9 ∧ 1 < x)) (h1 : x < 128) (h0 : ¬ (x = 0 ∧ 0 < n)) :
    lk bs at_ (f + 1) n v = (v + x % 128 * 128 ^ n, ((at_ + n + 1 : Nat) : Int), 0) := by
  rw [lk, if_pos h, hx, if_neg h9, if_pos h1, if_neg h0]
theorem lk_next {bs : List Int} {at_ f n : Nat} {v x : Int} (h : at_ + n < bs.length) (hx : bs.getD (at_ + n) 0 = x) (h9 : ¬ (n = 9 ∧ 1 < x)) (h1 : ¬ x < 128) :
    lk bs at_ (f + 1) n v = lk bs at_ f (n + 1) (v + x % 128 * 128 ^ n) := by
  rw [lk, if_pos h, hx, if_neg h9, if_neg h1]

/-- The next number, of at most so much: what it is, where the reader stands then, and its fault. -/
def rnum (bs : List Int) (at_ : Nat) (er : Int) (most : Int) : Int × Nat × Int :=
  if er ≠ 0 then (0, at_, er)
  else if (rlook bs at_).2.2 ≠ 0 then (0, at_, (rlook bs at_).2.2)
  else if (rlook bs at_).1 > most then (0, at_, 10)
  else ((rlook bs at_).1, (rlook bs at_).2.1.toNat, 0)

theorem lk_facts (bs : List Int) (hB : Byt bs) (at_ : Nat) (f : Nat) : ∀ (n : Nat) (v : Int), n + f = 10 → 0 ≤ v → v < 128 ^ n →
    0 ≤ (lk bs at_ f n v).1 ∧ (lk bs at_ f n v).1 < 18446744073709551616 ∧ 0 ≤ (lk bs at_ f n v).2.1 ∧ (lk bs at_ f n v).2.1 ≤ bs.length ∧
      ((lk bs at_ f n v).2.2 = 0 ∨ (lk bs at_ f n v).2.2 = 9 ∨ (lk bs at_ f n v).2.2 = 10) ∧
      ((lk bs at_ f n v).2.2 = 0 → at_ + n < (lk bs at_ f n v).2.1 ∧ (lk bs at_ f n v).2.1 ≤ at_ + 10) := by
  induction f with
  | zero => intro n v _ _ _; simp [lk]
  | succ f ih =>
    intro n v hn h0 h1
    by_cases hlt : at_ + n < bs.length
    · have hx : ∃ x, bs.getD (at_ + n) 0 = x ∧ 0 ≤ x ∧ x < 256 := by
        refine ⟨_, rfl, ?_⟩
        rw [List.getD_eq_getElem?_getD, List.getElem?_eq_getElem hlt]
        exact hB _ (List.getElem_mem hlt)
      obtain ⟨x, hx, hx0, hx1⟩ := hx
      by_cases h9 : n = 9 ∧ 1 < x
      · rw [lk_big hlt hx h9]; simp
      · by_cases h128 : x < 128
        · by_cases hz : x = 0 ∧ 0 < n
          · rw [lk_zero hlt hx hz.1 hz.2]; simp
          · rw [lk_done hlt hx h9 h128 hz]
            have hq := next_nonneg v x n h0
            have hlt' := next_lt v x n h1
            refine ⟨hq, ?_, by dsimp only; omega, by dsimp only; omega, .inl rfl, fun _ => ⟨by dsimp only; omega, by dsimp only; omega⟩⟩
            by_cases e : n = 9
            · subst e
              have hp : (128 : Int) ^ 9 = 9223372036854775808 := by decide
              have : x = 0 ∨ x = 1 := by omega
              rcases this with rfl | rfl
              · dsimp only; rw [hp] at h1 ⊢; omega
              · dsimp only; rw [hp] at h1 ⊢; omega
            · have := le_pow9 (n := n) (by omega)
              dsimp only; omega
        · rw [lk_next hlt hx h9 h128]
          have hne : n ≠ 9 := by omega
          obtain ⟨a, b, c, d, e, g⟩ := ih (n + 1) (v + x % 128 * 128 ^ n) (by omega) (next_nonneg v x n h0) (next_lt v x n h1)
          exact ⟨a, b, c, d, e, fun h => ⟨by have := (g h).1; omega, (g h).2⟩⟩
    · rw [lk_short hlt]; simp

theorem rlook_facts (bs : List Int) (hB : Byt bs) (at_ : Nat) :
    0 ≤ (rlook bs at_).1 ∧ (rlook bs at_).1 < 18446744073709551616 ∧ 0 ≤ (rlook bs at_).2.1 ∧ (rlook bs at_).2.1 ≤ bs.length ∧
      ((rlook bs at_).2.2 = 0 ∨ (rlook bs at_).2.2 = 9 ∨ (rlook bs at_).2.2 = 10) ∧ ((rlook bs at_).2.2 = 0 → at_ < (rlook bs at_).2.1 ∧ (rlook bs at_).2.1 ≤ at_ + 10) :=
  lk_facts bs hB at_ 10 0 0 (by omega) (by omega) (by decide)

/-- A number that is zigzag, read back. -/
def unzig (v : Int) : Int := if v % 2 = 0 then v / 2 else -(v / 2) - 1

theorem u64_and1 (v : Int) (h0 : 0 ≤ v) (h1 : v < 18446744073709551616) : bits .and .u64 v 1 = v % 2 := by
  rw [u64_and v 1 h0 h1 (by omega) (by omega)]
  have e : (1 : Int).toNat = 1 := rfl
  rw [e, nat_mask1]
  omega

theorem i64_xor_zero (a : Int) (h0 : 0 ≤ a) (h1 : a < 9223372036854775808) : bits .xor .i64 a 0 = a := by
  show IntKind.i64.wrap ((BitVec.ofInt 64 a ^^^ BitVec.ofInt 64 0).toNat : Int) = _
  have e : BitVec.ofInt 64 0 = 0#64 := rfl
  obtain ⟨n, rfl⟩ := Int.eq_ofNat_of_zero_le h0
  rw [e, BitVec.xor_zero, BitVec.ofInt_natCast, BitVec.toNat_ofNat, Nat.mod_eq_of_lt (by omega), IntKind.wrap_i64]
  omega

theorem i64_xor_ones (a : Int) (h0 : 0 ≤ a) (h1 : a < 9223372036854775808) : bits .xor .i64 a (-1) = -a - 1 := by
  show IntKind.i64.wrap ((BitVec.ofInt 64 a ^^^ BitVec.ofInt 64 (-1)).toNat : Int) = _
  have e : BitVec.ofInt 64 (-1) = BitVec.allOnes 64 := by decide
  obtain ⟨n, rfl⟩ := Int.eq_ofNat_of_zero_le h0
  rw [e, BitVec.xor_allOnes, BitVec.toNat_not, BitVec.ofInt_natCast, BitVec.toNat_ofNat, Nat.mod_eq_of_lt (by omega), IntKind.wrap_i64]
  have : (2 ^ 64 - 1 - n : Nat) = 18446744073709551615 - n := rfl
  rw [this]; omega

theorem unzig_bits (v : Int) (h0 : 0 ≤ v) (h1 : v < 18446744073709551616) :
    bits .xor .i64 (wrap64 (v / 2)) (wrap64 (-wrap64 (bits .and .u64 v 1))) = unzig v := by
  rw [u64_and1 v h0 h1]
  have e1 : wrap64 (v / 2) = v / 2 := by unfold wrap64; omega
  have e2 : wrap64 (v % 2) = v % 2 := by unfold wrap64; omega
  have q0 : 0 ≤ v / 2 := by omega
  have q1 : v / 2 < 9223372036854775808 := by omega
  rw [e1, e2]
  unfold unzig
  by_cases h : v % 2 = 0
  · rw [if_pos h, h, show wrap64 (-0) = 0 by unfold wrap64; rfl]
    exact i64_xor_zero _ q0 q1
  · have h' : v % 2 = 1 := by omega
    rw [if_neg h, h', show wrap64 (-1) = -1 by unfold wrap64; rfl]
    exact i64_xor_ones _ q0 q1

theorem unzig_zig (c : Int) : unzig (zig c) = c := by unfold unzig zig; split <;> split <;> omega

/-- The next text, of at most so many bytes. -/
def rtext (bs : List Int) (at_ : Nat) (er : Int) (most : Int) : List Int × Nat × Int :=
  if er ≠ 0 then ([], at_, er)
  else if (rnum bs at_ 0 (max most 0)).2.2 ≠ 0 then ([], at_, (rnum bs at_ 0 (max most 0)).2.2)
  else if (rnum bs at_ 0 (max most 0)).1 > (bs.length : Int) - (rnum bs at_ 0 (max most 0)).2.1 then ([], at_, 9)
  else ((bs.drop (rnum bs at_ 0 (max most 0)).2.1).take (rnum bs at_ 0 (max most 0)).1.toNat, (rnum bs at_ 0 (max most 0)).2.1 + (rnum bs at_ 0 (max most 0)).1.toNat, 0)

theorem rnum_facts (bs : List Int) (hB : Byt bs) (at_ : Nat) (ha : at_ ≤ bs.length) (er most : Int) (hm : 0 ≤ most) :
    0 ≤ (rnum bs at_ er most).1 ∧ (rnum bs at_ er most).1 < 18446744073709551616 ∧ (rnum bs at_ er most).1 ≤ most ∧ (rnum bs at_ er most).2.1 ≤ bs.length ∧ at_ ≤ (rnum bs at_ er most).2.1 ∧
      ((rnum bs at_ er most).2.2 ≠ 0 → (rnum bs at_ er most).1 = 0 ∧ (rnum bs at_ er most).2.1 = at_) ∧ (er ≠ 0 → (rnum bs at_ er most).2.2 = er) := by
  obtain ⟨a, b, c, d, e, g⟩ := rlook_facts bs hB at_
  unfold rnum
  split
  · refine ⟨by simp, by simp, by simpa using hm, ha, Nat.le_refl _, fun _ => ⟨rfl, rfl⟩, fun _ => rfl⟩
  · split
    · refine ⟨by simp, by simp, by simpa using hm, ha, Nat.le_refl _, fun _ => ⟨rfl, rfl⟩, fun h => by omega⟩
    · split
      · refine ⟨by simp, by simp, by simpa using hm, ha, Nat.le_refl _, fun _ => ⟨rfl, rfl⟩, fun h => by omega⟩
      · rename_i h1 h2 h3
        have := g (by omega)
        refine ⟨a, b, by dsimp only; omega, by dsimp only; omega, by dsimp only; omega, fun h => absurd rfl h, fun h => by omega⟩
end Go.Proofs.Ytggoigdlggenfaa.Plain
