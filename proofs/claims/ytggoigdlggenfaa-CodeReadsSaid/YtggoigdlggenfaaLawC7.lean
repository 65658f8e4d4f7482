/- The walk of the law of package code: what is read out of any bytes. -/
import Derived.Test.YtggoigdlggenfaaLawC1
import Derived.Deep.RegionHeld3
import Derived.Test.YtggoigdlggenfaaRefR3
import Derived.Test.YtggoigdlggenfaaKind
namespace Go.Proofs.Ytggoigdlggenfaa
open Go.RowKit Go.Proofs.Ytggoigdlggenfaa.Plain

/-- One reading: its kind, and its most. -/
structure ROp where
  kind : Int
  most : Int
def opK : Kind ROp := Kind.iso (Kind.pair (Kind.int .i64) (Kind.pair (Kind.int .i64) Kind.unit)) fun x => (x.kind, x.most, ())
theorem opK_opens {H : Type} {enc : TypeId × Value → H} {W : World} : Opens enc Try.prog W 65 opK :=
  opens_iso (fun x => ⟨x.1, x.2.1⟩) (fun _ => rfl) (opens_struct Try.underlying65 (by kernel_rfl) ⟨rfl, by kernel_rfl, trivial⟩ (opens_cons (opens_int Try.underlying3) (by kernel_rfl) (opens_cons (opens_int Try.underlying3) (by kernel_rfl) opens_nil)))
theorem opK_sees {w : World} {F : Nat → Prop} {x : ROp} {cs : List Value} (h : opK.sees w F x cs) : cs = [.int .i64 x.kind, .int .i64 x.most] := by
  obtain ⟨_, _, rfl, rfl, _, _, rfl, rfl, rfl⟩ := h
  rfl
theorem opK_ok {x : ROp} (h : opK.ok x) : I64 x.kind ∧ I64 x.most := ⟨i64_wf h.1, i64_wf h.2.1⟩

theorem Rdr.more {w : World} {F F' : Nat → Prop} {p : Nat} {bs : List Int} {at_ : Nat} {er : Int} (h : Rdr w F p bs at_ er) (hm : ∀ b, F b → b < w.heap.size → F' b) (hp : ¬ F' p) : Rdr w F' p bs at_ er := by
  obtain ⟨_, A, c, hc, hb, hr⟩ := h
  exact ⟨hp, A, c, hc, hb, hr.more hm⟩
theorem quiet_a {P : Program} {f : FuncId} {args : Array Value} {w : World} {a n : Nat} {v : Value}
    (h : Calls P f args (w.drewN (a + n)) fun e w' => e = .returned v ∧ ∃ k, w' = (w.drewN (a + n)).drewN k) : Calls P f args (w.drewN (a + n)) fun e w'' => e = .returned v ∧ ∃ m, w'' = w.drewN (a + m) :=
  quiet_add fun W hW => by subst hW; exact h

set_option maxHeartbeats 2000000 in
set_option maxRecDepth 100000 in
theorem CodeReads_walk (A : Option Addr) (c : Nat) (bs : List Int) (B : Option Addr) (d : Nat) (l : List ROp) (w : World) (hb : ∀ n ∈ bs, (Lit.int .u8 n).wf = true)
    (hr : Reads w (fun b => b < w.heap.size) 1 A bs.length (bs.map (Value.int .u8))) (hl : bs.length * 1 ≤ 140737488351232) (hcap : bs.length ≤ c)
    (hlo : opK.row.ok l) (hls : Arr opK w (fun b => b < w.heap.size) B l) :
    Calls Try.prog 9 #[.slice A bs.length c, .slice B l.length d] w fun e w' => e = .returned (.bool true) ∧ Below w.heap.size w w' := by
  have hB := byt_wf hb
  have hr0 : Reads w (fun b => b < w.heap.size) 1 A bs.length (u8s bs) := hr
  have hl0 : bs.length < 140737488355300 := by omega
  have HO := Lib.hid (own_any A c _ bs 71 w hr0 hl0)
  have Hlo : Hid (∀ x ∈ l, opK.ok x) := hlo
  have Hls := Lib.hid hls
  have hok0 : RdrOk bs 0 := ⟨hB, by omega, Nat.zero_le _⟩
  clear hr hb hl hlo hls
  go_enter Try.func9, Try.ntmps9
  go_wp2_with fail
  refine HO.out.mono ?_
  rintro e w1 ⟨g, rfl, hg, hO, b1⟩
  have hOo := hO.own (base := w.heap.size) hg hl0
  obtain ⟨A', c', hAc, _, hOr⟩ := hOo.reads
  injection hAc with hA1 _ hA3
  subst hA1; subst hA3
  go_wp2_with fail
  refine (new_any _ _ _ bs w1 hOr (by omega)).mono ?_
  rintro e w2 ⟨p, rfl, hp, hR00, b2⟩
  have hR := hR00.more (F' := fun b => w1.heap.size ≤ b ∧ b ≠ p ∧ b < w2.heap.size) (fun b hb hl => ⟨hb.1, hb.2, hl⟩) (fun h => h.2.1 rfl)
  go_wp2_with fail
  refine (awake3_any _).mono ?_
  rintro e w3 ⟨rfl, b3⟩
  have hq0 := Blk.new w2 62 #[.slice A bs.length c, .int .i64 0, .int .i64 0]
  generalize hw2 : w2.alloc _ = w2' at b3 hq0
  have b22 : Below w2.heap.size w2 w2' := by rw [← hw2]; exact (Below.refl _ _).alloc (Nat.le_refl _) _
  clear hw2
  have b02 := bt (bt b1 b2) b22
  have b13 := bt (bt b2 b22) b3
  have b03 := bt b02 b3
  go_wp2_with fail
  refine (kept_any g _ c _ bs 71 _ (Blk.below hO b13 hO.lt) (hr0.below b03) hl0).mono ?_
  rintro e w4 ⟨rfl, n4, rfl⟩
  go_wp2_with fail
  refine (spoil_any _ w.heap.size bs _ ((hOo.below b13).drewN n4) (by omega)).mono ?_
  rintro e w5 ⟨rfl, f5⟩
  have hgp : g < p := by have := hO.lt; omega
  have b05 : Below w.heap.size w w5 := below_frm (below_drewN b03 n4) f5 (Nat.le_refl _) (fun b hb e => by simp [Value.ownBlock] at e; omega)
  have hR3 := (hR.below (bt b22 b3)).drewN n4
  have hpq : p < w2.heap.size := by obtain ⟨_, _, _, _, hb, _⟩ := hR; exact hb.lt
  have hR5 := hR3.frm f5 (fun e => by simp [Value.ownBlock] at e; omega) (fun b hb e => by simp [Value.ownBlock] at e; have := hO.lt; omega)
  have hQ5 : RRdr w5 (fun b => b < w.heap.size) w2.heap.size bs 0 0 := by
    refine ⟨fun h => by have := b1.size; have := b2.size; omega, A, c, hcap, ?_, hr0.below b05⟩
    exact ((hq0.below b3 hq0.lt).drewN n4).frm f5 (fun e => by simp [Value.ownBlock] at e; omega)
  have hp1 : w.heap.size ≤ p := by have := b1.size; omega
  have hq1 : w.heap.size ≤ w2.heap.size := by omega
  obtain ⟨F, hF, hR6⟩ : ∃ F : Nat → Prop, Hid (∀ b, F b → w.heap.size ≤ b ∧ b ≠ p ∧ b < w2.heap.size) ∧ Rdr w5 F p bs 0 0 := ⟨_, fun b h => ⟨by have := b1.size; have := h.1; omega, h.2.1, h.2.2⟩, hR5⟩
  have hpq' : p ≠ w2.heap.size := by omega
  generalize w2.heap.size = q at *
  have Hpq := Lib.hid hpq'
  have hl1 : bs.length ≤ 140737488355300 := by omega
  clear hR5 hR3 hR hR00 hp hpq hgp b13 b22 b03 b02 b3 b2 hOr hOo hO hg f5 hq0 hpq' b1 HO
  go_wp2_with fail
  go_loopw [4, 8, 9] (fun _ iv _ wr => ∃ (i a : Nat) (er : Int), iv = .int .i64 i ∧ i ≤ 100 ∧ RdrOk bs a ∧ Rdr wr F p bs a er ∧ RRdr wr (fun b => b < w.heap.size) q bs a er ∧ Below w.heap.size w wr) (fun _ iv _ _ => 100 - (intOf iv).toNat)
  case atStart => exact ⟨0, 0, 0, rfl, by omega, hok0, hR6, hQ5, b05⟩
  case round =>
    obtain ⟨i, a, er, rfl, hi, hok, hRr, hQr, hbr⟩ := hrel
    by_cases hgo : i < l.length ∧ i < 100
    · obtain ⟨g1, g2⟩ := hgo
      have hx : l[i]? = some l[i] := List.getElem?_eq_getElem g1
      generalize l[i] = x at hx
      have hxo := opK_ok (Hlo.out x (List.mem_of_getElem? hx))
      obtain ⟨b, off, cs, rfl, hFb, hbl, hsee, hcells⟩ := (Hls.out.below hbr).at_ hx
      have hcs := opK_sees hsee
      subst hcs
      obtain ⟨kind, most⟩ := x
      have hk : wr.cell? ⟨b, off + i * 2, none⟩ = some (.int .i64 kind) := hcells 0 _ rfl
      have hmo : wr.cell? ⟨b, off + i * 2 + 1, none⟩ = some (.int .i64 most) := hcells 1 _ rfl
      have Hxo := Lib.hid hxo
      have hFb' : b < w.heap.size := hFb
      clear hx hxo hsee hcells hFb
      by_cases k1 : kind = 1
      · subst k1
        go_wp2_with fail
        refine (Int_m_any p bs F a er wr hRr hok).mono ?_
        rintro e w6 ⟨rfl, hR6, f6⟩
        have hQ6 := hQr.frm f6 (fun e => Hpq.out e.symm) (fun b hb e => by omega)
        go_wp2_with fail
        refine (rInt_m_any q bs _ a er w6 hQ6 hok).mono ?_
        rintro e w7 ⟨rfl, hQ7, f7⟩
        have hR7 := hR6.frm f7 (fun e => Hpq.out e) (fun b hb e => absurd (hF.out b hb).2.2 (by omega))
        have b7 : Below w.heap.size w w7 := below_frm (below_frm hbr f6 (Nat.le_refl _) (fun b hb e => by omega)) f7 (Nat.le_refl _) (fun b hb e => by omega)
        have ok' := rnum_ok er 18446744073709551615 hok
        generalize rnum bs a er 18446744073709551615 = X at *
        obtain ⟨v, a', er'⟩ := X
        dsimp only at ok' hR7 hQ7
        obtain ⟨A7, c7, hc7, hbk7, hrd7⟩ := hQ7.2
        have hq1 : w7.cell? ⟨q, 1, none⟩ = some (.int .i64 a') := hbk7.cell 1
        have hq2 : w7.cell? ⟨q, 2, none⟩ = some (.int .i64 er') := hbk7.cell 2
        have hwr : IntKind.i64.wrap ((bs.length : Int) - a') = (bs.length : Int) - a' := IntWalk.i64_in _ (by have := ok'.2.2; omega)
        have hne1 : ((bs.length : Int) - a' != (bs.length : Int) - a') = false := by simp
        have hne2 : (er' != er') = false := by simp
        have hne3 : (rend bs a' er' != rend bs a' er') = false := by simp
        generalize hre : rend bs a' er' = re at hne3
        have Hre := Lib.hid hre
        clear hre hbk7 hrd7 hc7
        have HL : ∀ k, Hid (Calls Try.prog 25 #[.pointer (some ⟨p, 0, none⟩)] (w7.drewN k) fun e w' => e = .returned (.int .i64 ((bs.length : Int) - a')) ∧ ∃ n, w' = (w7.drewN k).drewN n) := fun k => Left_m_any p bs F a' er' _ (hR7.drewN k) ok'
        have HE : ∀ k, Hid (Calls Try.prog 26 #[.pointer (some ⟨p, 0, none⟩)] (w7.drewN k) fun e w' => e = .returned (.int .i64 er') ∧ ∃ n, w' = (w7.drewN k).drewN n) := fun k => Err_m_any p bs F a' er' _ (hR7.drewN k)
        have HN : ∀ k, Hid (Calls Try.prog 27 #[.pointer (some ⟨p, 0, none⟩)] (w7.drewN k) fun e w' => e = .returned (.int .i64 re) ∧ ∃ n, w' = (w7.drewN k).drewN n) := fun k => by rw [← Hre.out]; exact End_m_any p bs F a' er' _ (hR7.drewN k) ok'
        have HM : ∀ k, Hid (Calls Try.prog 43 #[.pointer (some ⟨q, 0, none⟩)] (w7.drewN k) fun e w' => e = .returned (.int .i64 re) ∧ ∃ n, w' = (w7.drewN k).drewN n) := fun k => by rw [← Hre.out]; exact rEnd_m_any q bs _ a' er' _ (hQ7.drewN k) ok'
        go_wp2_with fail
        go_quiet (first
          | (go_at_call 25; first | exact quiet_s (HL _).out | exact quiet_a (HL _).out)
          | (go_at_call 26; first | exact quiet_s (HE _).out | exact quiet_a (HE _).out)
          | (go_at_call 27; first | exact quiet_s (HN _).out | exact quiet_a (HN _).out)
          | (go_at_call 43; first | exact quiet_s (HM _).out | exact quiet_a (HM _).out))
        go_wp2_with fail
        go_roundw
        case rel => exact ⟨i + 1, a', er', by go_num, by omega, ok', hR7.drewN _, hQ7.drewN _, below_drewN b7 _⟩
        case measure => simp [intOf]; omega
      by_cases k2 : kind = 2
      · subst k2
        have hS := rnum_ok er (max most 0) hok
        go_wp2_with fail
        go_region_held3 (fun W => W.cell? ⟨b, off + i * 2 + 1, none⟩ = some (.int .i64 most)) (first | exact hmo | assumption) (first
          | (go_at_call 28; refine (Small_m_any p bs F a er most _ (hRr.drewN 1) hok Hxo.out.2).mono ?_; rintro e w6 ⟨rfl, hR6, f6⟩; have hc6 : w6.cell? ⟨b, off + i * 2 + 1, none⟩ = some (.int .i64 most) := (World.cell?_of_block (w := wr) (f6.block b hbl (by omega))).trans hmo)
          | (go_at_call 40; refine (rSmall_m_any q bs _ a er most _ (RRdr.frm (w := wr.drewN 1) (hQr.drewN 1) f6 (fun e => Hpq.out e.symm) (fun b hb e => by omega)) hok Hxo.out.2).mono ?_; rintro e w7 ⟨rfl, hQ7, f7⟩; have hc7 : w7.cell? ⟨b, off + i * 2 + 1, none⟩ = some (.int .i64 most) := (World.cell?_of_block (w := w6) (f7.block b (by have := f6.size; have e : (wr.drewN 1).heap.size = wr.heap.size := rfl; omega) (by omega))).trans hc6))
        have hR7 := hR6.frm f7 (fun e => Hpq.out e) (fun b hb e => absurd (hF.out b hb).2.2 (by omega))
        have b7 : Below w.heap.size w w7 := below_frm (below_frm (below_drewN hbr 1) f6 (Nat.le_refl _) (fun b hb e => by omega)) f7 (Nat.le_refl _) (fun b hb e => by omega)
        have ok' := rnum_ok er (max most 0) hok
        generalize rnum bs a er (max most 0) = X at *
        obtain ⟨v, a', er'⟩ := X
        dsimp only at ok' hR7 hQ7
        clear hc6 hc7 hmo hk
        obtain ⟨A7, c7, hc7, hbk7, hrd7⟩ := hQ7.2
        have hq1 : w7.cell? ⟨q, 1, none⟩ = some (.int .i64 a') := hbk7.cell 1
        have hq2 : w7.cell? ⟨q, 2, none⟩ = some (.int .i64 er') := hbk7.cell 2
        have hwr : IntKind.i64.wrap ((bs.length : Int) - a') = (bs.length : Int) - a' := IntWalk.i64_in _ (by have := ok'.2.2; omega)
        have hne1 : ((bs.length : Int) - a' != (bs.length : Int) - a') = false := by simp
        have hne2 : (er' != er') = false := by simp
        have hne3 : (rend bs a' er' != rend bs a' er') = false := by simp
        generalize hre : rend bs a' er' = re at hne3
        have Hre := Lib.hid hre
        clear hre hbk7 hrd7 hc7
        have HL : ∀ k, Hid (Calls Try.prog 25 #[.pointer (some ⟨p, 0, none⟩)] (w7.drewN k) fun e w' => e = .returned (.int .i64 ((bs.length : Int) - a')) ∧ ∃ n, w' = (w7.drewN k).drewN n) := fun k => Left_m_any p bs F a' er' _ (hR7.drewN k) ok'
        have HE : ∀ k, Hid (Calls Try.prog 26 #[.pointer (some ⟨p, 0, none⟩)] (w7.drewN k) fun e w' => e = .returned (.int .i64 er') ∧ ∃ n, w' = (w7.drewN k).drewN n) := fun k => Err_m_any p bs F a' er' _ (hR7.drewN k)
        have HN : ∀ k, Hid (Calls Try.prog 27 #[.pointer (some ⟨p, 0, none⟩)] (w7.drewN k) fun e w' => e = .returned (.int .i64 re) ∧ ∃ n, w' = (w7.drewN k).drewN n) := fun k => by rw [← Hre.out]; exact End_m_any p bs F a' er' _ (hR7.drewN k) ok'
        have HM : ∀ k, Hid (Calls Try.prog 43 #[.pointer (some ⟨q, 0, none⟩)] (w7.drewN k) fun e w' => e = .returned (.int .i64 re) ∧ ∃ n, w' = (w7.drewN k).drewN n) := fun k => by rw [← Hre.out]; exact rEnd_m_any q bs _ a' er' _ (hQ7.drewN k) ok'
        go_wp2_with fail
        go_quiet (first
          | (go_at_call 25; first | exact quiet_s (HL _).out | exact quiet_a (HL _).out)
          | (go_at_call 26; first | exact quiet_s (HE _).out | exact quiet_a (HE _).out)
          | (go_at_call 27; first | exact quiet_s (HN _).out | exact quiet_a (HN _).out)
          | (go_at_call 43; first | exact quiet_s (HM _).out | exact quiet_a (HM _).out))
        go_wp2_with fail
        go_roundw
        case rel => exact ⟨i + 1, a', er', by go_num, by omega, ok', hR7.drewN _, hQ7.drewN _, below_drewN b7 _⟩
        case measure => simp [intOf]; omega
      by_cases k3 : kind = 3
      · subst k3
        have ok' := rtext_ok er most hok
        have hsub := rtext_sub bs hB a er most
        have HT := Text_m_any p bs F a er most wr hRr hok Hxo.out.2
        have HQT := fun W hW => rText_m_any q bs (fun b => b < w.heap.size) a er most W hW hok Hxo.out.2
        generalize rtext bs a er most = X at *
        obtain ⟨T, a', er'⟩ := X
        dsimp only at ok' hsub HT HQT
        obtain ⟨hTB, hTl⟩ := hsub
        have HT' := Lib.hid HT
        have HQT' := Lib.hid HQT
        have hqlt : q < wr.heap.size := by obtain ⟨_, _, _, _, hb, _⟩ := hQr; exact hb.lt
        have hplt : p < wr.heap.size := by obtain ⟨_, _, _, _, hb, _⟩ := hRr; exact hb.lt
        clear HT HQT
        go_wp2_with fail
        refine HT'.out.mono ?_
        rintro e w6 ⟨x6, rfl, o6, hR6, f6⟩
        have l6 := o6.lt
        obtain ⟨X6, c6, rfl, hX6, n6⟩ := o6.reads
        have hQ6 := hQr.frm f6 (fun e => Hpq.out e.symm) (fun b hb e => by omega)
        have hmo6 : w6.cell? ⟨b, off + i * 2 + 1, none⟩ = some (.int .i64 most) := (World.cell?_of_block (w := wr) (f6.block b hbl (by omega))).trans hmo
        have b6 : Below w.heap.size w w6 := below_frm hbr f6 (Nat.le_refl _) (fun b hb e => by omega)
        have L6 := Lib.hid l6
        clear l6
        go_wp2_with fail
        refine (HQT'.out _ hQ6).mono ?_
        rintro e w9 ⟨y9, rfl, o9, hQ9, f9⟩
        have n69 := n6.frm f9 (fun b hb e => by have := L6.out b hb; omega)
        have o69 := o6.frm f9 (fun b hb e => by have := L6.out b hb; omega)
        obtain ⟨Y9, c9, rfl, _, n9⟩ := o9.reads
        have hR9 := hR6.frm f9 (fun e => Hpq.out e) (fun b hb e => absurd (hF.out b hb).2.2 (by omega))
        go_wp2_with fail
        refine (bytes_any _ _ _ _ _ _ T T _ n69 n9 hTB hTB).mono ?_
        rintro e wz ⟨rfl, rfl⟩
        rw [decide_eq_true rfl]
        go_wp2_with fail
        refine (spoil_any _ _ T _ o69 (by omega)).mono ?_
        rintro e w7 ⟨rfl, f7⟩
        have hR7 := hR9.frm f7 (fun e => by have := L6.out p e; omega) (fun b hb e => by have := L6.out b e; have := (hF.out b hb).2.2; omega)
        have hQ7 := hQ9.frm f7 (fun e => by have := L6.out q e; omega) (fun b hb e => by have := L6.out b e; omega)
        have b7 : Below w.heap.size w w7 := below_frm (below_frm b6 f9 (Nat.le_refl _) (fun b hb e => by omega)) f7 (Nat.le_refl _) (fun b hb e => by have := L6.out b e; omega)
        clear hmo6 hmo hk
        obtain ⟨A7, c7, hc7, hbk7, hrd7⟩ := hQ7.2
        have hq1 : w7.cell? ⟨q, 1, none⟩ = some (.int .i64 a') := hbk7.cell 1
        have hq2 : w7.cell? ⟨q, 2, none⟩ = some (.int .i64 er') := hbk7.cell 2
        have hwr : IntKind.i64.wrap ((bs.length : Int) - a') = (bs.length : Int) - a' := IntWalk.i64_in _ (by have := ok'.2.2; omega)
        have hne1 : ((bs.length : Int) - a' != (bs.length : Int) - a') = false := by simp
        have hne2 : (er' != er') = false := by simp
        have hne3 : (rend bs a' er' != rend bs a' er') = false := by simp
        generalize hre : rend bs a' er' = re at hne3
        have Hre := Lib.hid hre
        clear hre hbk7 hrd7 hc7
        have HL : ∀ k, Hid (Calls Try.prog 25 #[.pointer (some ⟨p, 0, none⟩)] (w7.drewN k) fun e w' => e = .returned (.int .i64 ((bs.length : Int) - a')) ∧ ∃ n, w' = (w7.drewN k).drewN n) := fun k => Left_m_any p bs F a' er' _ (hR7.drewN k) ok'
        have HE : ∀ k, Hid (Calls Try.prog 26 #[.pointer (some ⟨p, 0, none⟩)] (w7.drewN k) fun e w' => e = .returned (.int .i64 er') ∧ ∃ n, w' = (w7.drewN k).drewN n) := fun k => Err_m_any p bs F a' er' _ (hR7.drewN k)
        have HN : ∀ k, Hid (Calls Try.prog 27 #[.pointer (some ⟨p, 0, none⟩)] (w7.drewN k) fun e w' => e = .returned (.int .i64 re) ∧ ∃ n, w' = (w7.drewN k).drewN n) := fun k => by rw [← Hre.out]; exact End_m_any p bs F a' er' _ (hR7.drewN k) ok'
        have HM : ∀ k, Hid (Calls Try.prog 43 #[.pointer (some ⟨q, 0, none⟩)] (w7.drewN k) fun e w' => e = .returned (.int .i64 re) ∧ ∃ n, w' = (w7.drewN k).drewN n) := fun k => by rw [← Hre.out]; exact rEnd_m_any q bs _ a' er' _ (hQ7.drewN k) ok'
        go_wp2_with fail
        go_quiet (first
          | (go_at_call 25; first | exact quiet_s (HL _).out | exact quiet_a (HL _).out)
          | (go_at_call 26; first | exact quiet_s (HE _).out | exact quiet_a (HE _).out)
          | (go_at_call 27; first | exact quiet_s (HN _).out | exact quiet_a (HN _).out)
          | (go_at_call 43; first | exact quiet_s (HM _).out | exact quiet_a (HM _).out))
        go_wp2_with fail
        go_roundw
        case rel => exact ⟨i + 1, a', er', by go_num, by omega, ok', hR7.drewN _, hQ7.drewN _, below_drewN b7 _⟩
        case measure => simp [intOf]; omega
      · go_wp2_with fail
        refine (Num_m_any p bs F a er wr hRr hok).mono ?_
        rintro e w6 ⟨rfl, hR6, f6⟩
        have hQ6 := hQr.frm f6 (fun e => Hpq.out e.symm) (fun b hb e => by omega)
        go_wp2_with fail
        refine (rNum_m_any q bs _ a er w6 hQ6 hok).mono ?_
        rintro e w7 ⟨rfl, hQ7, f7⟩
        have hR7 := hR6.frm f7 (fun e => Hpq.out e) (fun b hb e => absurd (hF.out b hb).2.2 (by omega))
        have b7 : Below w.heap.size w w7 := below_frm (below_frm hbr f6 (Nat.le_refl _) (fun b hb e => by omega)) f7 (Nat.le_refl _) (fun b hb e => by omega)
        have ok' := rnum_ok er 18446744073709551615 hok
        generalize rnum bs a er 18446744073709551615 = X at *
        obtain ⟨v, a', er'⟩ := X
        dsimp only at ok' hR7 hQ7
        obtain ⟨A7, c7, hc7, hbk7, hrd7⟩ := hQ7.2
        have hq1 : w7.cell? ⟨q, 1, none⟩ = some (.int .i64 a') := hbk7.cell 1
        have hq2 : w7.cell? ⟨q, 2, none⟩ = some (.int .i64 er') := hbk7.cell 2
        have hwr : IntKind.i64.wrap ((bs.length : Int) - a') = (bs.length : Int) - a' := IntWalk.i64_in _ (by have := ok'.2.2; omega)
        have hne1 : ((bs.length : Int) - a' != (bs.length : Int) - a') = false := by simp
        have hne2 : (er' != er') = false := by simp
        have hne3 : (rend bs a' er' != rend bs a' er') = false := by simp
        generalize hre : rend bs a' er' = re at hne3
        have Hre := Lib.hid hre
        clear hre hbk7 hrd7 hc7
        have HL : ∀ k, Hid (Calls Try.prog 25 #[.pointer (some ⟨p, 0, none⟩)] (w7.drewN k) fun e w' => e = .returned (.int .i64 ((bs.length : Int) - a')) ∧ ∃ n, w' = (w7.drewN k).drewN n) := fun k => Left_m_any p bs F a' er' _ (hR7.drewN k) ok'
        have HE : ∀ k, Hid (Calls Try.prog 26 #[.pointer (some ⟨p, 0, none⟩)] (w7.drewN k) fun e w' => e = .returned (.int .i64 er') ∧ ∃ n, w' = (w7.drewN k).drewN n) := fun k => Err_m_any p bs F a' er' _ (hR7.drewN k)
        have HN : ∀ k, Hid (Calls Try.prog 27 #[.pointer (some ⟨p, 0, none⟩)] (w7.drewN k) fun e w' => e = .returned (.int .i64 re) ∧ ∃ n, w' = (w7.drewN k).drewN n) := fun k => by rw [← Hre.out]; exact End_m_any p bs F a' er' _ (hR7.drewN k) ok'
        have HM : ∀ k, Hid (Calls Try.prog 43 #[.pointer (some ⟨q, 0, none⟩)] (w7.drewN k) fun e w' => e = .returned (.int .i64 re) ∧ ∃ n, w' = (w7.drewN k).drewN n) := fun k => by rw [← Hre.out]; exact rEnd_m_any q bs _ a' er' _ (hQ7.drewN k) ok'
        go_wp2_with fail
        go_quiet (first
          | (go_at_call 25; first | exact quiet_s (HL _).out | exact quiet_a (HL _).out)
          | (go_at_call 26; first | exact quiet_s (HE _).out | exact quiet_a (HE _).out)
          | (go_at_call 27; first | exact quiet_s (HN _).out | exact quiet_a (HN _).out)
          | (go_at_call 43; first | exact quiet_s (HM _).out | exact quiet_a (HM _).out))
        go_wp2_with fail
        go_roundw
        case rel => exact ⟨i + 1, a', er', by go_num, by omega, ok', hR7.drewN _, hQ7.drewN _, below_drewN b7 _⟩
        case measure => simp [intOf]; omega
    · by_cases g1 : i < l.length
      · have g2 : ¬ i < 100 := fun h => hgo ⟨g1, h⟩
        go_wp2_with fail
        go_ret
        exact ⟨rfl, hbr⟩
      · go_wp2_with fail
        go_ret
        exact ⟨rfl, hbr⟩
end Go.Proofs.Ytggoigdlggenfaa
