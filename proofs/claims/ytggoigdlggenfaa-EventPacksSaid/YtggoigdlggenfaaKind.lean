/- Kinds: how a value of a Go type reads as plain data, nested slices and all; and how an argument's reading gives such data. -/
import Derived.Test.YtggoigdlggenfaaOpen
import Derived.Deep.Slices
import Derived.Deep.Fields
import Derived.ChangeSame
namespace Go.Proofs.Ytggoigdlggenfaa
open Go.ChangeShapes Go.WideShapes Go.ChangeAt Go.RowKit Go.Deep

/-- How a value of so many cells reads as plain data; 'ok': its numbers are in their ranges. -/
structure Kind (α : Type) where
  sz : Nat
  ok : α → Prop
  sees : World → (Nat → Prop) → α → List Value → Prop
  len : ∀ {w F a cs}, sees w F a cs → cs.length = sz
  one : ∀ {w F a cs}, sees w F a cs → ∀ u ∈ cs, u.oneCell' = true
  keep : ∀ {w w' : World} {F a cs}, w.heap.size ≤ w'.heap.size → (∀ b, F b → b < w.heap.size → w'.heap[b]? = w.heap[b]?) → sees w F a cs → sees w' F a cs
  more : ∀ {w : World} {F F' : Nat → Prop} {a cs}, (∀ b, F b → b < w.heap.size → F' b) → sees w F a cs → sees w F' a cs

/-- A row of elements lies at A, in blocks that F tells. -/
def Arr {α : Type} (K : Kind α) (w : World) (F : Nat → Prop) (A : Option Addr) (xs : List α) : Prop :=
  0 < xs.length → ∃ b off, A = some ⟨b, off, none⟩ ∧ F b ∧ b < w.heap.size ∧ ∀ i x, xs[i]? = some x → ∃ cs, K.sees w F x cs ∧ ∀ j u, cs[j]? = some u → w.cell? ⟨b, off + (i * K.sz + j), none⟩ = some u

section
variable {α β : Type} {K : Kind α} {w w' : World} {F F' : Nat → Prop} {A : Option Addr} {xs : List α}
theorem Arr.keep (h : Arr K w F A xs) (hs : w.heap.size ≤ w'.heap.size) (hk : ∀ b, F b → b < w.heap.size → w'.heap[b]? = w.heap[b]?) : Arr K w' F A xs := fun h0 => by
  obtain ⟨b, off, rfl, hF, hb, hc⟩ := h h0
  refine ⟨b, off, rfl, hF, by omega, fun i x hx => ?_⟩
  obtain ⟨cs, h1, h2⟩ := hc i x hx
  exact ⟨cs, K.keep hs hk h1, fun j u hu => (World.cell?_of_block (w := w) (hk b hF hb)).trans (h2 j u hu)⟩
theorem Arr.more (h : Arr K w F A xs) (hF : ∀ b, F b → b < w.heap.size → F' b) : Arr K w F' A xs := fun h0 => by
  obtain ⟨b, off, rfl, hb, hl, hc⟩ := h h0
  refine ⟨b, off, rfl, hF b hb hl, hl, fun i x hx => ?_⟩
  obtain ⟨cs, h1, h2⟩ := hc i x hx
  exact ⟨cs, K.more hF h1, h2⟩
theorem Arr.below (h : Arr K w F A xs) (hb : Below w.heap.size w w') : Arr K w' F A xs := h.keep hb.size fun b _ hl => hb.block b hl
theorem Arr.drewN (h : Arr K w F A xs) (n : Nat) : Arr K (w.drewN n) F A xs := h.keep (Nat.le_refl _) fun _ _ _ => rfl
theorem Arr.frm {M : Nat → Prop} (h : Arr K w F A xs) (k : Frm M w w') (hd : ∀ b, F b → ¬ M b) : Arr K w' F A xs := h.keep k.size fun b hF hl => k.block b hl (hd b hF)
theorem Arr.nil : Arr K w F A [] := fun h => absurd h (by simp)
/-- Element i, and where its cells are. -/
theorem Arr.at_ (h : Arr K w F A xs) {i : Nat} {x : α} (hx : xs[i]? = some x) : ∃ b off cs, A = some ⟨b, off, none⟩ ∧ F b ∧ b < w.heap.size ∧ K.sees w F x cs ∧ ∀ j u, cs[j]? = some u → w.cell? ⟨b, off + (i * K.sz + j), none⟩ = some u := by
  obtain ⟨b, off, rfl, hF, hb, hc⟩ := h (by have := (List.getElem?_eq_some_iff.1 hx).1; omega)
  obtain ⟨cs, h1, h2⟩ := hc i x hx
  exact ⟨b, off, cs, rfl, hF, hb, h1, h2⟩
end

namespace Kind
def int (k : IntKind) : Kind Int where
  sz := 1
  ok := fun n => (Lit.int k n).wf = true
  sees := fun _ _ a cs => cs = [.int k a]
  len := by rintro w F a cs rfl; rfl
  one := by rintro w F a cs rfl u hu; rw [List.mem_singleton.1 hu]; rfl
  keep := fun _ _ h => h
  more := fun _ h => h
def bool : Kind Bool where
  sz := 1
  ok := fun _ => True
  sees := fun _ _ a cs => cs = [.bool a]
  len := by rintro w F a cs rfl; rfl
  one := by rintro w F a cs rfl u hu; rw [List.mem_singleton.1 hu]; rfl
  keep := fun _ _ h => h
  more := fun _ h => h
def unit : Kind Unit where
  sz := 0
  ok := fun _ => True
  sees := fun _ _ _ cs => cs = []
  len := by rintro w F a cs rfl; rfl
  one := by rintro w F a cs rfl u hu; cases hu
  keep := fun _ _ h => h
  more := fun _ h => h
def pair {α β : Type} (a : Kind α) (b : Kind β) : Kind (α × β) where
  sz := a.sz + b.sz
  ok := fun x => a.ok x.1 ∧ b.ok x.2
  sees := fun w F x cs => ∃ c0 c1, cs = c0 ++ c1 ∧ a.sees w F x.1 c0 ∧ b.sees w F x.2 c1
  len := by rintro w F x cs ⟨c0, c1, rfl, h0, h1⟩; rw [List.length_append, a.len h0, b.len h1]
  one := by
    rintro w F x cs ⟨c0, c1, rfl, h0, h1⟩ u hu
    rcases List.mem_append.1 hu with h | h
    · exact a.one h0 u h
    · exact b.one h1 u h
  keep := by rintro w w' F x cs hs hk ⟨c0, c1, rfl, h0, h1⟩; exact ⟨c0, c1, rfl, a.keep hs hk h0, b.keep hs hk h1⟩
  more := by rintro w F F' x cs hk ⟨c0, c1, rfl, h0, h1⟩; exact ⟨c0, c1, rfl, a.more hk h0, b.more hk h1⟩
def iso {α β : Type} (K : Kind α) (f : β → α) : Kind β where
  sz := K.sz
  ok := fun b => K.ok (f b)
  sees := fun w F b cs => K.sees w F (f b) cs
  len := K.len
  one := K.one
  keep := K.keep
  more := K.more
def row {α : Type} (K : Kind α) : Kind (List α) where
  sz := 1
  ok := fun xs => ∀ x ∈ xs, K.ok x
  sees := fun w F xs cs => ∃ A c, cs = [.slice A xs.length c] ∧ xs.length ≤ c ∧ Arr K w F A xs
  len := by rintro w F xs cs ⟨A, c, rfl, _⟩; rfl
  one := by rintro w F xs cs ⟨A, c, rfl, _⟩ u hu; rw [List.mem_singleton.1 hu]; rfl
  keep := by rintro w w' F xs cs hs hk ⟨A, c, rfl, h, ha⟩; exact ⟨A, c, rfl, h, ha.keep hs hk⟩
  more := by rintro w F F' xs cs hk ⟨A, c, rfl, h, ha⟩; exact ⟨A, c, rfl, h, ha.more hk⟩
end Kind

section
variable {H : Type} {enc : TypeId × Value → H} {P : Program} {W : World}
/-- Whatever reads as a value of type t reads as that kind. -/
def Opens {α : Type} (enc : TypeId × Value → H) (P : Program) (W : World) (t : TypeId) (K : Kind α) : Prop :=
  ∀ fuel cs x, DataW.trod enc P W 0 (fun _ => true) true fuel t cs = some x → ∃ a, K.ok a ∧ K.sees W (fun b => b < W.heap.size) a cs
def FieldsAt (P : Program) : List Field → Nat → Prop
  | [], _ => True
  | f :: r, off => f.offset = off ∧ FieldsAt P r (off + P.cellsOf f.type)
def OpensL {α : Type} (enc : TypeId × Value → H) (P : Program) (W : World) (fs : List Field) (K : Kind α) : Prop :=
  ∀ (off n : Nat) (cs : List Value), FieldsAt P fs off → cs.length = off + K.sz → (∀ f ∈ fs, ∃ y, DataW.trod enc P W 0 (fun _ => true) true n f.type ((cs.drop f.offset).take (P.cellsOf f.type)) = some y) →
    ∃ a, K.ok a ∧ K.sees W (fun b => b < W.heap.size) a (cs.drop off)

theorem opens_int {t : TypeId} {k : IntKind} (h : P.underlying t = some (.int k)) : Opens enc P W t (Kind.int k) := by
  intro fuel cs x hx
  obtain ⟨n, rfl, _, hn⟩ := DataW.trod_int h hx
  exact ⟨n, hn, rfl⟩
theorem opens_bool {t : TypeId} (h : P.underlying t = some .bool) : Opens enc P W t Kind.bool := by
  intro fuel cs x hx
  obtain ⟨b, rfl, _⟩ := DataW.trod_bool h hx
  exact ⟨b, trivial, rfl⟩
theorem opens_nil : OpensL enc P W [] Kind.unit := by
  intro off n cs _ hl _
  refine ⟨(), trivial, ?_⟩
  have : cs.length = off := hl
  exact List.drop_eq_nil_of_le (by omega)
theorem opens_cons {α β : Type} {f : Field} {fs : List Field} {K : Kind α} {L : Kind β} (h : Opens enc P W f.type K) (hs : P.cellsOf f.type = K.sz) (r : OpensL enc P W fs L) : OpensL enc P W (f :: fs) (Kind.pair K L) := by
  intro off n cs hat hl hy
  obtain ⟨ho, hat'⟩ := hat
  have hl' : cs.length = off + (K.sz + L.sz) := hl
  obtain ⟨y, hy0⟩ := hy f (by simp)
  obtain ⟨a, ha, hsa⟩ := h _ _ _ hy0
  obtain ⟨b, hb, hsb⟩ := r (off + P.cellsOf f.type) n cs hat' (by omega) (fun g hg => hy g (by simp [hg]))
  refine ⟨(a, b), ⟨ha, hb⟩, _, _, ?_, hsa, hsb⟩
  rw [ho, ← List.drop_drop, List.take_append_drop]
theorem opens_struct {α : Type} {t : TypeId} {fs : Array Field} {K : Kind α} (hu : P.underlying t = some (.struct fs)) (hc : P.cellsOf t = K.sz) (hat : FieldsAt P fs.toList 0) (h : OpensL enc P W fs.toList K) : Opens enc P W t K := by
  intro fuel cs x hx
  obtain ⟨ys, n, _, _, hl, hyl, hf⟩ := DataW.trod_struct hu hx
  have := h 0 n cs hat (by omega) (fun f hf' => by
    obtain ⟨i, hi, rfl⟩ := List.mem_iff_getElem.1 hf'
    have hi' : i < fs.size := by simpa using hi
    have := hf i fs[i] (Array.getElem?_eq_getElem hi')
    rw [List.getElem?_eq_getElem (show i < ys.length by omega)] at this
    exact ⟨_, by simpa using this⟩)
  simpa using this
theorem opens_iso {α β : Type} {t : TypeId} {K : Kind α} {f : β → α} (g : α → β) (hg : ∀ a, f (g a) = a) (h : Opens enc P W t K) : Opens enc P W t (Kind.iso K f) := by
  intro fuel cs x hx
  obtain ⟨a, h1, h2⟩ := h _ _ _ hx
  exact ⟨g a, by show K.ok (f (g a)); rw [hg]; exact h1, by show K.sees _ _ (f (g a)) _; rw [hg]; exact h2⟩
theorem choose_list {α : Type} {p : Nat → α → Prop} (n : Nat) (h : ∀ i, i < n → ∃ a, p i a) : ∃ l : List α, l.length = n ∧ ∀ i a, l[i]? = some a → p i a := by
  induction n with
  | zero => exact ⟨[], rfl, by simp⟩
  | succ n ih =>
    obtain ⟨l, hl, hp⟩ := ih (fun i hi => h i (by omega))
    obtain ⟨a, ha⟩ := h n (by omega)
    refine ⟨l ++ [a], by simp [hl], fun i b hb => ?_⟩
    by_cases hi : i < l.length
    · rw [List.getElem?_append_left hi] at hb; exact hp i b hb
    · rw [List.getElem?_append_right (by omega)] at hb
      have : i - l.length = 0 := by
        have := (List.getElem?_eq_some_iff.1 hb).1
        simp at this; omega
      rw [this] at hb
      simp at hb
      subst hb
      have : i = n := by omega
      subst this
      exact ha
theorem opens_row {α : Type} {t e : TypeId} {K : Kind α} (ht : P.underlying t = some (.slice e)) (hc : P.cellsOf e = K.sz) (h0 : 0 < K.sz) (h : Opens enc P W e K) : Opens enc P W t (Kind.row K) := by
  intro fuel cs x hx
  rcases open_slice ht hx with ⟨rfl, _⟩ | ⟨a, len, cap, m, n, D, Pl, rfl, _, hl, hm, hmm, _, hi⟩
  · refine ⟨([] : List α), ?_, none, 0, rfl, Nat.le_refl _, Arr.nil⟩
    show ∀ x ∈ ([] : List α), K.ok x
    simp
  · have hmc : m = cap := by simpa using hmm
    have each : ∀ i, i < len → ∃ y : α, K.ok y ∧ ∃ cs, K.sees W (fun b => b < W.heap.size) y cs ∧ ∀ j u, cs[j]? = some u → W.cell? (a.add (i * K.sz + j)) = some u := by
      intro i hil
      obtain ⟨cs', hcs', ht'⟩ := hi i (by omega)
      obtain ⟨y, hy1, hy2⟩ := h _ _ _ ht'
      obtain ⟨_, hcl, hat⟩ := World.cells?_some hcs'
      refine ⟨y, hy1, cs', hy2, fun j u hu => ?_⟩
      have hj : j < P.cellsOf e := by rw [← hcl]; exact (List.getElem?_eq_some_iff.1 hu).1
      have := hat j hj
      rw [hu, hc, add_add'] at this
      exact this
    obtain ⟨l, hll, hlp⟩ := choose_list len each
    refine ⟨l, fun y hy => ?_, some a, cap, by rw [hll], by omega, fun hpos => ?_⟩
    · obtain ⟨i, hi, rfl⟩ := List.mem_iff_getElem.1 hy
      exact (hlp i _ (List.getElem?_eq_getElem hi)).1
    · obtain ⟨y0, hy0⟩ : ∃ y0, l[0]? = some y0 := ⟨l[0], List.getElem?_eq_getElem hpos⟩
      obtain ⟨_, cs0, hs0, hc0⟩ := hlp 0 y0 hy0
      have hcl := K.len hs0
      have h00 := hc0 0 cs0[0] (List.getElem?_eq_getElem (by omega))
      have hadd : a.add (0 * K.sz + 0) = a := by simp [Addr.add]
      rw [hadd] at h00
      have hsp : a.spot = none := by
        unfold World.cell? at h00
        cases hs : a.spot with
        | none => rfl
        | some s => rw [hs] at h00; revert h00; cases W.heap[a.block]? with
          | none => simp
          | some o => cases o <;> simp
      have hblt := World.block_lt_of_cell? W _ h00
      obtain ⟨b, off, sp⟩ := a
      simp only at hsp
      subst hsp
      refine ⟨b, off, rfl, hblt, hblt, fun i y hy => ?_⟩
      obtain ⟨_, cs', h1, h2⟩ := hlp i y hy
      refine ⟨cs', h1, fun j u hu => ?_⟩
      have := h2 j u hu
      rw [add_lit'] at this
      exact this
end
end Go.Proofs.Ytggoigdlggenfaa
