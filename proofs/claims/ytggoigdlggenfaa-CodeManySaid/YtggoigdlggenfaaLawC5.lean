/- The walk of the law of package code: a number has one form. -/
import Derived.Test.YtggoigdlggenfaaLawC2
import Derived.Test.YtggoigdlggenfaaRdr2
import Derived.Deep.RegionHeld3
namespace Go.Proofs.Ytggoigdlggenfaa
open Go.RowKit Go.Proofs.Ytggoigdlggenfaa.Plain

theorem quiet_s {P : Program} {f : FuncId} {args : Array Value} {w : World} {n : Nat} {v : Value}
    (h : Calls P f args (w.drewN n) fun e w' => e = .returned v ∧ ∃ k, w' = (w.drewN n).drewN k) : Calls P f args (w.drewN n) fun e w'' => e = .returned v ∧ ∃ m, w'' = w.drewN m :=
  quiet_same fun W hW => by subst hW; exact h
theorem quiet_a {P : Program} {f : FuncId} {args : Array Value} {w : World} {a n : Nat} {v : Value}
    (h : Calls P f args (w.drewN (a + n)) fun e w' => e = .returned v ∧ ∃ k, w' = (w.drewN (a + n)).drewN k) : Calls P f args (w.drewN (a + n)) fun e w'' => e = .returned v ∧ ∃ m, w'' = w.drewN (a + m) :=
  quiet_add fun W hW => by subst hW; exact h
theorem reads_prefix {w : World} {F : Nat → Prop} {A : Option Addr} {n : Nat} {xs : List Value} (h : Reads w F 1 A n xs) {k : Nat} (hk : k ≤ n) : Reads w F 1 A k (xs.take k) := by
  refine ⟨by have := h.1; rw [List.length_take]; omega, fun h0 => ?_⟩
  obtain ⟨b, off, rfl, hF, hb, hc⟩ := h.2 (by omega)
  refine ⟨b, off, rfl, hF, hb, fun j u hu => hc j u ?_⟩
  rw [List.getElem?_take] at hu
  split at hu
  · exact hu
  · cases hu
theorem bytes_len (A B : Option Addr) (n m c d : Nat) (F G : Nat → Prop) (xs ys : List Int) (w : World) (hn : n = xs.length) (hm : m = ys.length) (hx : Reads w F 1 A xs.length (u8s xs)) (hy : Reads w G 1 B ys.length (u8s ys)) (bx : Byt xs) (by_ : Byt ys) :
    Calls Try.prog 18 #[.slice A n c, .slice B m d] w fun e w' => e = .returned (.bool (decide (xs = ys))) ∧ w' = w := by
  subst hn; subst hm
  exact bytes_any A B c d F G xs ys w hx hy bx by_

theorem new_len (A : Option Addr) (n c : Nat) (F : Nat → Prop) (bs : List Int) (w : World) (hn : n = bs.length) (hr : Reads w F 1 A bs.length (u8s bs)) (hlen : bs.length ≤ 140737488355300) :
    Calls Try.prog 23 #[.slice A n c] w fun e w' => ∃ p, e = .returned (.pointer (some ⟨p, 0, none⟩)) ∧ w.heap.size ≤ p ∧ Rdr w' (fun b => w.heap.size ≤ b ∧ b ≠ p) p bs 0 0 ∧ Below w.heap.size w w' := by
  subst hn
  exact new_any A c F bs w hr hlen

set_option maxHeartbeats 1000000 in
set_option maxRecDepth 100000 in
theorem CodeOneForm_walk (A : Option Addr) (c : Nat) (bs : List Int) (v : Int) (w : World) (hb : ∀ n ∈ bs, (Lit.int .u8 n).wf = true)
    (hr : Reads w (fun b => b < w.heap.size) 1 A bs.length (bs.map (Value.int .u8))) (hl : bs.length * 1 ≤ 140737488351232) (hcap : bs.length ≤ c) (hv : (Lit.int .u64 v).wf = true) :
    Calls Try.prog 5 #[.slice A bs.length c, .int .u64 v] w fun e w' => e = .returned (.bool true) ∧ Below w.heap.size w w' := by
  have hB := byt_wf hb
  have hr0 : Reads w (fun b => b < w.heap.size) 1 A bs.length (u8s bs) := hr
  have Hv := Lib.hid (u64_wf hv)
  have hl0 : bs.length ≤ 140737488351232 := by omega
  have ok0 : RdrOk bs 0 := ⟨hB, by omega, Nat.zero_le _⟩
  have ok1 := rnum_ok 0 18446744073709551615 ok0
  have hx := rnum_rng 0 18446744073709551615 ok0 (by omega)
  have hform := rnum_form bs hB 0 18446744073709551615
  have hle := ok1.2.2
  generalize hx1 : (rnum bs 0 0 18446744073709551615).1 = x at hx hform
  generalize hx2 : (rnum bs 0 0 18446744073709551615).2.1 = a at hform hle ok1
  generalize hx3 : (rnum bs 0 0 18446744073709551615).2.2 = er at hform
  have Hx1 := Lib.hid hx1
  have Hx2 := Lib.hid hx2
  have Hx3 := Lib.hid hx3
  have Hx := Lib.hid hx
  have Hform := Lib.hid hform
  clear hr hb hv hl hx1 hx2 hx3 hform hx
  obtain ⟨k, hk⟩ : ∃ k, (encI v).length = k + 1 := ⟨(encI v).length - 1, by have := encI_pos v; omega⟩
  have hk10 : k ≤ 10 := by have := encI_len10 (x := v) (by have := Hv.out.2; omega); omega
  have hpart := rnum_part v (by have := Hv.out.2; omega) k (by omega) 18446744073709551615
  have hmB : Byt ((encI v).take k) := fun y hy => byt_encI v y (List.mem_of_mem_take hy)
  have hml : ((encI v).take k).length = k := by rw [List.length_take]; omega
  generalize hM : (encI v).take k = M at hpart hmB hml
  have Hk := Lib.hid hk
  have HM := Lib.hid hM
  have Hml := Lib.hid hml
  have Hpart := Lib.hid hpart
  have okM : RdrOk M 0 := ⟨hmB, by omega, Nat.zero_le _⟩
  clear hk hM hpart hml
  go_enter Try.func5, Try.ntmps5
  go_wp2_with fail
  refine (new_any _ _ _ bs w hr0 (by omega)).mono ?_
  rintro e w1 ⟨p, rfl, hp, hR, b1⟩
  go_wp2_with fail
  refine (awake3_any _).mono ?_
  rintro e w2 ⟨rfl, b2⟩
  have hR2 := hR.below b2
  have b02 := bt b1 b2
  go_wp2_with fail
  refine (Num_m_any p bs _ 0 0 w2 hR2 ok0).mono ?_
  rintro e w3 ⟨rfl, hR3, f3⟩
  rw [Hx2.out, Hx3.out] at hR3
  rw [Hx1.out]
  have b03 : Below w.heap.size w w3 := below_frm b02 f3 (Nat.le_refl _) (fun b hb e => by omega)
  go_wp2_with fail
  refine (Left_m_any p bs _ a er w3 hR3 ok1).mono ?_
  rintro e w4 ⟨rfl, n4, rfl⟩
  have hsub : (bs.length : Int) - ((bs.length : Int) - a) = a := by omega
  by_cases he : er = 0
  · subst he
    have hr3 := hr0.below b03
    have hsl := reads_prefix hr3 hle
    have hac : (a : Int) ≤ (c : Int) := by omega
    have e1 : (bs.drop 0).take (a - 0) = encI x := (Hform.out rfl).2
    have e2 : (u8s bs).take a = u8s (encI x) := by rw [← e1]; simp [u8s]
    have e3 : a = (encI x).length := by rw [← e1]; simp; omega
    rw [e2] at hsl
    have Hsl : Hid (Reads w3 (fun b => b < w.heap.size) 1 A (encI x).length (u8s (encI x))) := by rw [← e3]; exact hsl
    have E3 := Lib.hid e3
    clear hsl e1 e2 e3
    go_wp2_with fail
    go_region_held3 (fun _ => True) (trivial) (first
      | (go_at_call 26; refine (Err_m_any p bs _ a 0 _ (hR3.drewN _)).mono ?_; rintro e w5 ⟨rfl, n5, rfl⟩)
      | (go_at_call 14; refine (num_any x ⟨Hx.out.1, Hx.out.2.1⟩ _).mono ?_; rintro e w6 ⟨y, rfl, oy, b6⟩; obtain ⟨Y, ky, rfl, _, ny⟩ := oy.reads)
      | (go_at_call 18; refine (bytes_len _ _ _ _ _ _ _ _ (encI x) (encI x) _ rfl E3.out ny ((Hsl.out.drewN _).below b6) (byt_encI _) (byt_encI _)).mono ?_; rintro e w7 ⟨rfl, rfl⟩; rw [decide_eq_true rfl]))
    have B0 := bt (below_drewN b03 (n4 + 1 + n5)) b6
    go_wp2_with fail
    refine (num_any _ Hv.out _).mono ?_
    rintro e w8 ⟨m, rfl, om, b8⟩
    obtain ⟨MA, mc, rfl, hmc, nm⟩ := om.reads
    have nm' := reads_prefix nm (k := k) (by have := Hk.out; omega)
    have e4 : (u8s (encI v)).take k = u8s M := by rw [← HM.out]; simp [u8s]
    have nm2 : Reads w8 (fun b => (Value.slice MA (encI v).length mc).ownBlock = some b) 1 MA M.length (u8s M) := by rw [← e4, Hml.out]; exact nm'
    rw [Hk.out] at hmc nm2 ⊢
    have hkc : (k : Int) ≤ (mc : Int) := by omega
    clear e4 nm' nm om
    have b08 := bt B0 b8
    go_wp2_with fail
    refine (new_len _ _ _ _ M _ Hml.out.symm nm2 (by have := Hml.out; omega)).mono ?_
    rintro e w9 ⟨q, rfl, hq, hS, b9⟩
    have b09 := bt b08 b9
    have hq0 : w.heap.size ≤ q := by have := b08.size; omega
    go_wp2_with fail
    refine (Num_m_any q M _ 0 0 w9 hS okM).mono ?_
    rintro e wa ⟨rfl, hSa, fa⟩
    have oka := rnum_ok 0 18446744073709551615 okM
    rw [Hpart.out] at hSa oka
    rw [Hpart.out]
    have b0a : Below w.heap.size w wa := below_frm b09 fa (Nat.le_refl _) (fun b hb e => by omega)
    go_wp2_with fail
    refine (Err_m_any q M _ 0 9 wa hSa).mono ?_
    rintro e wb ⟨rfl, nb, rfl⟩
    go_wp2_with fail
    go_ret
    exact ⟨rfl, below_drewN b0a _⟩
  · have he0 : (er == 0) = false := by simp; omega
    go_wp2_with fail
    go_quiet ((go_at_call 26; first | exact quiet_s (Err_m_any p bs _ a er _ (hR3.drewN _)) | exact quiet_a (Err_m_any p bs _ a er _ (hR3.drewN _))))
    have B0 := below_drewN b03 (n4 + nq)
    go_wp2_with fail
    refine (num_any _ Hv.out _).mono ?_
    rintro e w8 ⟨m, rfl, om, b8⟩
    obtain ⟨MA, mc, rfl, hmc, nm⟩ := om.reads
    have nm' := reads_prefix nm (k := k) (by have := Hk.out; omega)
    have e4 : (u8s (encI v)).take k = u8s M := by rw [← HM.out]; simp [u8s]
    have nm2 : Reads w8 (fun b => (Value.slice MA (encI v).length mc).ownBlock = some b) 1 MA M.length (u8s M) := by rw [← e4, Hml.out]; exact nm'
    rw [Hk.out] at hmc nm2 ⊢
    have hkc : (k : Int) ≤ (mc : Int) := by omega
    clear e4 nm' nm om
    have b08 := bt B0 b8
    go_wp2_with fail
    refine (new_len _ _ _ _ M _ Hml.out.symm nm2 (by have := Hml.out; omega)).mono ?_
    rintro e w9 ⟨q, rfl, hq, hS, b9⟩
    have b09 := bt b08 b9
    have hq0 : w.heap.size ≤ q := by have := b08.size; omega
    go_wp2_with fail
    refine (Num_m_any q M _ 0 0 w9 hS okM).mono ?_
    rintro e wa ⟨rfl, hSa, fa⟩
    have oka := rnum_ok 0 18446744073709551615 okM
    rw [Hpart.out] at hSa oka
    rw [Hpart.out]
    have b0a : Below w.heap.size w wa := below_frm b09 fa (Nat.le_refl _) (fun b hb e => by omega)
    go_wp2_with fail
    refine (Err_m_any q M _ 0 9 wa hSa).mono ?_
    rintro e wb ⟨rfl, nb, rfl⟩
    go_wp2_with fail
    go_ret
    exact ⟨rfl, below_drewN b0a _⟩
end Go.Proofs.Ytggoigdlggenfaa
