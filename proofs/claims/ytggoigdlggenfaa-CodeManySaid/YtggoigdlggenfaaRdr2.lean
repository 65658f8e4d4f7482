/- Plain facts on numbers as bytes that are read back: what was written is read; what is read is what was written; a part of a number is too short. No program in sight. -/
import Derived.Test.YtggoigdlggenfaaRdr
namespace Go.Proofs.Ytggoigdlggenfaa.Plain
open Go

def encN (q : Nat) : List Int := (enc q).map (fun (n : Nat) => (n : Int))
theorem encN_lo {q : Nat} (h : q < 128) : encN q = [(q : Int)] := by unfold encN; rw [enc_lo h]; rfl
theorem encN_hi {q : Nat} (h : ¬ q < 128) : encN q = ((q : Int) % 128 + 128) :: encN (q / 128) := by
  unfold encN; rw [enc_hi h, List.map_cons]; congr 1
theorem encN_len (q : Nat) : (encN q).length = (enc q).length := by unfold encN; simp
theorem encI_eq (q : Int) : encI q = encN q.toNat := rfl

theorem drop_cons {bs ys : List Int} {k : Nat} {y : Int} (h : bs.drop k = y :: ys) : k < bs.length ∧ bs.getD k 0 = y ∧ bs.drop (k + 1) = ys := by
  have hk : k < bs.length := by
    apply Decidable.byContradiction; intro hn
    rw [List.drop_of_length_le (by omega)] at h
    cases h
  rw [List.drop_eq_getElem_cons hk] at h
  injection h with h1 h2
  exact ⟨hk, by rw [List.getD_eq_getElem?_getD, List.getElem?_eq_getElem hk]; exact h1, h2⟩

theorem split128 (q n : Nat) (v : Int) : v + ((q : Int) % 128) * 128 ^ n + ((q / 128 : Nat) : Int) * 128 ^ (n + 1) = v + (q : Int) * 128 ^ n := by
  have hs : (128 : Int) ^ (n + 1) = 128 * 128 ^ n := by rw [Int.pow_succ, Int.mul_comm]
  have hq : (q : Int) = (q : Int) % 128 + 128 * ((q / 128 : Nat) : Int) := by omega
  rw [hs]
  generalize (128 : Int) ^ n = P
  generalize ((q / 128 : Nat) : Int) = d at hq
  generalize (q : Int) % 128 = m at hq
  rw [hq, Int.add_mul, Int.mul_assoc, Int.mul_left_comm d 128 P, Int.add_assoc]

theorem lk_reads (bs : List Int) (at_ : Nat) (f : Nat) : ∀ (n : Nat) (v : Int) (q : Nat) (rest : List Int), bs.drop (at_ + n) = encN q ++ rest → (enc q).length ≤ f → n + f = 10 → (0 < n → 0 < q) →
    q * 128 ^ n < 18446744073709551616 → lk bs at_ f n v = (v + (q : Int) * 128 ^ n, ((at_ + n + (enc q).length : Nat) : Int), 0) := by
  induction f with
  | zero => intro n v q rest _ hl; have := enc_pos q; omega
  | succ f ih =>
    intro n v q rest hd hl hn h0 hq
    by_cases h : q < 128
    · rw [encN_lo h] at hd
      obtain ⟨hk, hx, _⟩ := drop_cons hd
      have h9 : ¬ (n = 9 ∧ (1 : Int) < q) := by
        rintro ⟨rfl, h1⟩
        have : (128 : Nat) ^ 9 = 9223372036854775808 := by decide
        omega
      rw [lk_done hk hx h9 (by omega) (by omega), enc_lo h]
      have : (q : Int) % 128 = q := by omega
      rw [this]; rfl
    · rw [encN_hi h] at hd
      obtain ⟨hk, hx, ht⟩ := drop_cons hd
      have h9 : ¬ (n = 9 ∧ (1 : Int) < (q : Int) % 128 + 128) := by
        rintro ⟨rfl, _⟩
        have : (128 : Nat) ^ 9 = 9223372036854775808 := by decide
        omega
      rw [enc_hi h] at hl
      have hlt : q / 128 * 128 ^ (n + 1) < 18446744073709551616 := by
        have h1 : q / 128 * 128 ≤ q := Nat.div_mul_le_self _ _
        have h2 : q / 128 * 128 ^ (n + 1) = q / 128 * 128 * 128 ^ n := by rw [Nat.pow_succ, Nat.mul_comm (128 ^ n) 128, Nat.mul_assoc]
        have h3 := Nat.mul_le_mul_right (128 ^ n) h1
        omega
      rw [lk_next hk hx h9 (by omega), ih (n + 1) _ (q / 128) rest ht (by simpa using hl) (by omega) (by omega) hlt, enc_hi h]
      have e : ((q : Int) % 128 + 128) % 128 = (q : Int) % 128 := by omega
      rw [e, split128]
      simp only [List.length_cons, Prod.mk.injEq, true_and, and_true]
      omega

/-- What was written is read. -/
theorem rlook_reads (bs rest : List Int) (at_ : Nat) (q : Int) (h0 : 0 ≤ q) (h1 : q < 18446744073709551616) (hd : bs.drop at_ = encI q ++ rest) :
    rlook bs at_ = (q, ((at_ + (encI q).length : Nat) : Int), 0) := by
  have := lk_reads bs at_ 10 0 0 q.toNat rest hd (enc_len10 (by omega)) (by omega) (by omega) (by omega)
  unfold rlook
  rw [this, encI_eq, encN_len]
  have e : (q.toNat : Int) = q := Int.toNat_of_nonneg h0
  rw [e]
  simp

theorem lk_short_all (bs : List Int) (at_ : Nat) (f : Nat) : ∀ (n : Nat) (v : Int) (q k : Nat), bs.drop (at_ + n) = (encN q).take k → k < (enc q).length → (enc q).length ≤ f → n + f = 10 →
    q * 128 ^ n < 18446744073709551616 → lk bs at_ f n v = (0, 0, 9) := by
  induction f with
  | zero => intro n v q k _ _ hl; have := enc_pos q; omega
  | succ f ih =>
    intro n v q k hd hk hl hn hq
    cases k with
    | zero =>
      rw [List.take_zero] at hd
      have : bs.length ≤ at_ + n := List.drop_eq_nil_iff.1 hd
      exact lk_short (by omega)
    | succ k =>
      by_cases h : q < 128
      · rw [enc_lo h] at hk; simp at hk
      · rw [encN_hi h, List.take_succ_cons] at hd
        obtain ⟨hb, hx, ht⟩ := drop_cons hd
        have h9 : ¬ (n = 9 ∧ (1 : Int) < (q : Int) % 128 + 128) := by
          rintro ⟨rfl, _⟩
          have : (128 : Nat) ^ 9 = 9223372036854775808 := by decide
          omega
        rw [enc_hi h] at hl hk
        have hlt : q / 128 * 128 ^ (n + 1) < 18446744073709551616 := by
          have h1 : q / 128 * 128 ≤ q := Nat.div_mul_le_self _ _
          have h2 : q / 128 * 128 ^ (n + 1) = q / 128 * 128 * 128 ^ n := by rw [Nat.pow_succ, Nat.mul_comm (128 ^ n) 128, Nat.mul_assoc]
          have h3 := Nat.mul_le_mul_right (128 ^ n) h1
          omega
        rw [lk_next hb hx h9 (by omega)]
        exact ih (n + 1) _ (q / 128) k ht (by simpa using hk) (by simpa using hl) (by omega) hlt

/-- A part of a number is too short. -/
theorem rlook_part (q : Int) (h1 : q < 18446744073709551616) (k : Nat) (hk : k < (encI q).length) : rlook ((encI q).take k) 0 = (0, 0, 9) := by
  rw [encI_eq, encN_len] at hk
  exact lk_short_all _ 0 10 0 0 q.toNat k (by rw [encI_eq]; simp) hk (enc_len10 (by omega)) (by omega) (by omega)

theorem lk_form (bs : List Int) (hB : Byt bs) (at_ : Nat) (f : Nat) : ∀ (n : Nat) (v : Int), n + f = 10 → (lk bs at_ f n v).2.2 = 0 →
    ∃ q : Nat, (0 < n → 0 < q) ∧ (lk bs at_ f n v).1 = v + (q : Int) * 128 ^ n ∧ (lk bs at_ f n v).2.1 = ((at_ + n + (enc q).length : Nat) : Int) ∧ ∃ rest, bs.drop (at_ + n) = encN q ++ rest := by
  induction f with
  | zero => intro n v _ h; simp [lk] at h
  | succ f ih =>
    intro n v hn h
    by_cases hlt : at_ + n < bs.length
    · obtain ⟨x, hx, hx0, hx1, hdr⟩ : ∃ x, bs.getD (at_ + n) 0 = x ∧ 0 ≤ x ∧ x < 256 ∧ bs.drop (at_ + n) = x :: bs.drop (at_ + n + 1) := by
        refine ⟨_, rfl, ?_⟩
        rw [List.getD_eq_getElem?_getD, List.getElem?_eq_getElem hlt]
        have := hB _ (List.getElem_mem hlt)
        exact ⟨this.1, this.2, List.drop_eq_getElem_cons hlt⟩
      by_cases h9 : n = 9 ∧ 1 < x
      · rw [lk_big hlt hx h9] at h; simp at h
      · by_cases h128 : x < 128
        · by_cases hz : x = 0 ∧ 0 < n
          · rw [lk_zero hlt hx hz.1 hz.2] at h; simp at h
          · rw [lk_done hlt hx h9 h128 hz]
            obtain ⟨q, rfl⟩ := Int.eq_ofNat_of_zero_le hx0
            have hq : q < 128 := by omega
            refine ⟨q, by omega, by dsimp only; rw [show (q : Int) % 128 = q by omega], by rw [enc_lo hq]; rfl, bs.drop (at_ + n + 1), by rw [hdr, encN_lo hq]; rfl⟩
        · rw [lk_next hlt hx h9 h128] at h ⊢
          obtain ⟨q, hq, e1, e2, rest, e3⟩ := ih (n + 1) _ (by omega) h
          have hq0 := hq (by omega)
          obtain ⟨y, hy⟩ : ∃ y : Nat, x = (y : Int) + 128 ∧ y < 128 := ⟨(x - 128).toNat, by omega, by omega⟩
          have hge : ¬ (q * 128 + y) < 128 := by omega
          have hdiv : (q * 128 + y) / 128 = q := by omega
          refine ⟨q * 128 + y, by omega, ?_, ?_, rest, ?_⟩
          · rw [e1]
            have := split128 (q * 128 + y) n v
            rw [hdiv] at this
            rw [← this]
            congr 2
            congr 1
            omega
          · rw [e2, enc_hi hge, hdiv, List.length_cons]; congr 1; omega
          · rw [hdr, encN_hi hge, hdiv, List.cons_append, show at_ + n + 1 = at_ + (n + 1) by omega, e3]; congr 1; omega
    · rw [lk_short hlt] at h; simp at h

/-- What is read is what was written. -/
theorem rlook_form (bs : List Int) (hB : Byt bs) (at_ : Nat) (h : (rlook bs at_).2.2 = 0) :
    ∃ rest, bs.drop at_ = encI (rlook bs at_).1 ++ rest ∧ (rlook bs at_).2.1 = ((at_ + (encI (rlook bs at_).1).length : Nat) : Int) := by
  obtain ⟨q, _, e1, e2, rest, e3⟩ := lk_form bs hB at_ 10 0 0 (by omega) h
  have e : (rlook bs at_).1 = (q : Int) := by unfold rlook; rw [e1]; simp
  refine ⟨rest, ?_, ?_⟩
  · rw [e, encI_eq, Int.toNat_natCast]; exact e3
  · rw [e, encI_eq, Int.toNat_natCast, encN_len]; unfold rlook; rw [e2]; rfl

theorem rnum_reads (bs rest : List Int) (at_ : Nat) (q most : Int) (h0 : 0 ≤ q) (h1 : q < 18446744073709551616) (hm : q ≤ most) (hd : bs.drop at_ = encI q ++ rest) :
    rnum bs at_ 0 most = (q, at_ + (encI q).length, 0) := by
  have h := rlook_reads bs rest at_ q h0 h1 hd
  unfold rnum
  rw [if_neg (by omega), h, if_neg (by simp), if_neg (by dsimp only; omega)]
  rfl

theorem rtext_reads (bs t rest : List Int) (at_ : Nat) (most : Int) (hm : (t.length : Int) ≤ most) (hl : (t.length : Int) < 18446744073709551616) (hd : bs.drop at_ = encI t.length ++ (t ++ rest)) :
    rtext bs at_ 0 most = (t, at_ + (encI t.length).length + t.length, 0) := by
  have h := rnum_reads bs (t ++ rest) at_ t.length (max most 0) (by omega) hl (by omega) hd
  have hlen : bs.length = at_ + (encI t.length).length + (t.length + rest.length) := by
    have := congrArg List.length hd
    have hle : at_ ≤ bs.length := by
      apply Decidable.byContradiction; intro hn
      rw [List.drop_of_length_le (by omega)] at hd
      have := congrArg List.length hd
      have h2 : 1 ≤ (encI (t.length : Int)).length := by unfold encI; rw [List.length_map]; exact enc_pos _
      simp at this
      omega
    rw [List.length_drop, List.length_append, List.length_append] at this
    omega
  unfold rtext
  rw [if_neg (by omega), h, if_neg (by simp), if_neg (by dsimp only; omega)]
  dsimp only
  rw [Int.toNat_natCast, ← List.drop_drop, hd, List.drop_left, List.take_left]

theorem rnum_short (bs : List Int) (at_ : Nat) (most : Int) (h : bs.length ≤ at_) : rnum bs at_ 0 most = (0, at_, 9) := by
  have : rlook bs at_ = (0, 0, 9) := lk_short (by omega)
  unfold rnum
  rw [if_neg (by omega), this, if_pos (by simp)]

theorem rnum_part (q : Int) (h1 : q < 18446744073709551616) (k : Nat) (hk : k < (encI q).length) (most : Int) : rnum ((encI q).take k) 0 0 most = (0, 0, 9) := by
  unfold rnum
  rw [if_neg (by omega), rlook_part q h1 k hk, if_pos (by simp)]

theorem rnum_form (bs : List Int) (hB : Byt bs) (at_ : Nat) (most : Int) (h : (rnum bs at_ 0 most).2.2 = 0) :
    (rnum bs at_ 0 most).1 = (rlook bs at_).1 ∧ (bs.drop at_).take ((rnum bs at_ 0 most).2.1 - at_) = encI (rnum bs at_ 0 most).1 := by
  unfold rnum at h ⊢
  rw [if_neg (by omega)] at h ⊢
  by_cases h1 : (rlook bs at_).2.2 ≠ 0
  · rw [if_pos h1] at h; exact absurd h h1
  · rw [if_neg h1] at h ⊢
    by_cases h2 : (rlook bs at_).1 > most
    · rw [if_pos h2] at h; simp at h
    · rw [if_neg h2]
      obtain ⟨rest, e1, e2⟩ := rlook_form bs hB at_ (by omega)
      refine ⟨rfl, ?_⟩
      dsimp only
      rw [e2, Int.toNat_natCast, Nat.add_sub_cancel_left, e1, List.take_left]

theorem lk_shift (bs : List Int) (at_ f : Nat) : ∀ (n : Nat) (v : Int),
    (lk (bs.drop at_) 0 f n v).1 = (lk bs at_ f n v).1 ∧ (lk (bs.drop at_) 0 f n v).2.2 = (lk bs at_ f n v).2.2 ∧ ((lk bs at_ f n v).2.2 = 0 → (lk bs at_ f n v).2.1 = at_ + (lk (bs.drop at_) 0 f n v).2.1) ∧
      ((lk bs at_ f n v).2.2 ≠ 0 → (lk (bs.drop at_) 0 f n v).2.1 = 0 ∧ (lk bs at_ f n v).1 = 0) := by
  induction f with
  | zero => intro n v; simp [lk]
  | succ f ih =>
    intro n v
    have hg : (bs.drop at_).getD (0 + n) 0 = bs.getD (at_ + n) 0 := by
      rw [List.getD_eq_getElem?_getD, List.getD_eq_getElem?_getD, List.getElem?_drop, Nat.zero_add]
    have hl : (0 + n < (bs.drop at_).length) ↔ at_ + n < bs.length := by rw [List.length_drop]; omega
    by_cases h : at_ + n < bs.length
    · have h' := hl.2 h
      by_cases h9 : n = 9 ∧ 1 < bs.getD (at_ + n) 0
      · rw [lk_big h' hg h9, lk_big h rfl h9]; simp
      · by_cases h1 : bs.getD (at_ + n) 0 < 128
        · by_cases hz : bs.getD (at_ + n) 0 = 0 ∧ 0 < n
          · rw [lk_zero h' hg hz.1 hz.2, lk_zero h rfl hz.1 hz.2]; simp
          · rw [lk_done h' hg h9 h1 hz, lk_done h rfl h9 h1 hz]
            refine ⟨rfl, rfl, fun _ => by dsimp only; omega, fun h => absurd rfl h⟩
        · rw [lk_next h' hg h9 h1, lk_next h rfl h9 h1]
          exact ih _ _
    · rw [lk_short (fun h' => h (hl.1 h')), lk_short h]; simp

theorem rnum_full (bs : List Int) (hB : Byt bs) (at_ : Nat) :
    rnum bs at_ 0 18446744073709551615 = ((rlook (bs.drop at_) 0).1, at_ + (rlook (bs.drop at_) 0).2.1.toNat, (rlook (bs.drop at_) 0).2.2) := by
  obtain ⟨a, b, c, d⟩ := lk_shift bs at_ 10 0 0
  have hf := rlook_facts bs hB at_
  have hg := rlook_facts (bs.drop at_) (fun x hx => hB x (List.mem_of_mem_drop hx)) 0
  change (rlook (bs.drop at_) 0).1 = (rlook bs at_).1 at a
  change (rlook (bs.drop at_) 0).2.2 = (rlook bs at_).2.2 at b
  change (rlook bs at_).2.2 = 0 → (rlook bs at_).2.1 = at_ + (rlook (bs.drop at_) 0).2.1 at c
  change (rlook bs at_).2.2 ≠ 0 → (rlook (bs.drop at_) 0).2.1 = 0 ∧ (rlook bs at_).1 = 0 at d
  unfold rnum
  rw [if_neg (by omega)]
  generalize rlook bs at_ = r at *
  generalize rlook (bs.drop at_) 0 = s at *
  obtain ⟨r1, r2, r3⟩ := r
  obtain ⟨s1, s2, s3⟩ := s
  dsimp only at *
  subst a; subst b
  by_cases h : s3 ≠ 0
  · rw [if_pos h]
    obtain ⟨h1, h2⟩ := d h
    subst h1; subst h2
    rfl
  · rw [if_neg h, if_neg (by omega)]
    have h0 : s3 = 0 := by omega
    have := c h0
    have e : r2.toNat = at_ + s2.toNat := by omega
    rw [e, h0]

theorem rtext_sub (bs : List Int) (hB : Byt bs) (at_ : Nat) (er most : Int) : Byt (rtext bs at_ er most).1 ∧ (rtext bs at_ er most).1.length ≤ bs.length := by
  have h0 : Byt [] ∧ ([] : List Int).length ≤ bs.length := ⟨fun x hx => absurd hx (by simp), Nat.zero_le _⟩
  unfold rtext
  split
  · exact h0
  · split
    · exact h0
    · split
      · exact h0
      · exact ⟨fun x hx => hB x (List.mem_of_mem_drop (List.mem_of_mem_take hx)), by dsimp only; rw [List.length_take, List.length_drop]; omega⟩
end Go.Proofs.Ytggoigdlggenfaa.Plain
