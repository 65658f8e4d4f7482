/- How the arguments of the laws read: a row of numbers out of a reading, and its size. -/
import Derived.Test.YtggoigdlggenfaaRows
import Derived.Test.YtggoigdlggenfaaMem
import Derived.ProofKit
import Derived.OpenShut
import Derived.ChangeOld
import Derived.SizedLaws
namespace Go.Proofs.Ytggoigdlggenfaa
open Go.ChangeShapes Go.WideShapes Go.ChangeAt Go.RowKit

theorem Try.own : ownKnob Try.prog.godebug = none := by kernel_rfl
theorem Try.laidOut : laidOutB Try.prog = true := by kernel_rfl

/-- A datum that is nil or a slice of at least n. -/
def SliceOf {H : Type} (d : DataW H) (n : Nat) : Prop := (d = .nil ∧ n = 0) ∨ ∃ el sp, d = .slice el sp ∧ n ≤ el.length + sp.length

theorem sliceOf_sized {H : Type} {P : Program} {ts : List TypeId} {ds : List (DataW H)} (h : (DataW.weightsEach P ts ds).all (· ≤ reachBytes) = true) {j : Nat} {t e : TypeId} {d : DataW H} {n : Nat}
    (ht : ts[j]? = some t) (hd : ds[j]? = some d) (hu : P.underlying t = some (.slice e)) (hs : SliceOf d n) (b : Nat) (hb : P.bytesOf e = b) : n * b ≤ 140737488351232 := by
  subst hb
  rcases hs with ⟨rfl, rfl⟩ | ⟨el, sp, rfl, hn⟩
  · omega
  · have h1 := sized_slice h ht hd hu
    have h2 : n * P.bytesOf e ≤ (el.length + sp.length) * P.bytesOf e := Nat.mul_le_mul_right _ hn
    have h3 : reachBytes = 140737488351232 := by decide
    omega

/-- A row of numbers that came in. -/
theorem open_nums {H : Type} {enc : TypeId × Value → H} {P : Program} {W : World} {base : Nat} {t e : TypeId} {k : IntKind} {v : Value} {d : DataW H} {p : List MemPlace}
    (ht : P.underlying t = some (.slice e)) (he : P.underlying e = some (.int k)) (hc : P.cellsOf e = 1) (hok : Value.okWide P W .any base t v) (h : DataW.Trod enc P W 0 (fun _ => true) true t v d p) :
    ∃ (A : Option Addr) (c : Nat) (zs : List Int), v = .slice A zs.length c ∧ zs.length ≤ c ∧ (∀ n ∈ zs, (Lit.int k n).wf = true) ∧ Reads W (fun b => b < W.heap.size) 1 A zs.length (zs.map (Value.int k)) ∧ SliceOf d zs.length := by
  obtain ⟨a, len, cap, rfl⟩ := okWide_slice ht hok
  obtain ⟨fuel, hf⟩ := h
  have hlt : ∀ x ∈ p, x.block < W.heap.size := fun x hx => DataW.trod_lt fuel _ _ _ hf x hx
  rcases open_ints ht he hc hf with ⟨hcs, hx⟩ | ⟨x, l, c, zs, hcs, hb, hl, hm, hz, hx, hcell, hwz⟩
  · simp [Value.cells] at hcs
    obtain ⟨rfl, rfl, rfl⟩ := hcs
    simp only [Prod.mk.injEq] at hx
    exact ⟨none, 0, [], rfl, Nat.le_refl _, by simp, Reads.none_, .inl ⟨hx.1, rfl⟩⟩
  · simp [Value.cells] at hcs
    obtain ⟨rfl, rfl, rfl⟩ := hcs
    simp only [Prod.mk.injEq] at hx
    have hz' : zs.length = cap := by simpa using hz
    have hlen : (zs.take len).length = len := by rw [List.length_take]; omega
    refine ⟨some x, cap, zs.take len, by rw [hlen], by omega, fun n hn => hwz n (List.mem_of_mem_take hn), ⟨by simp, fun hn => ?_⟩, .inr ⟨_, _, hx.1, by simp [lits]⟩⟩
    have h0 := hcell 0 (by omega)
    have hsp : x.spot = none := by
      have : (x.add 0) = x := by simp [Addr.add]
      rw [this] at h0
      unfold World.cell? at h0
      cases hs : x.spot with
      | none => rfl
      | some s => rw [hs] at h0; revert h0; cases W.heap[x.block]? with
        | none => simp
        | some o => cases o <;> simp
    obtain ⟨b, off, sp⟩ := x
    simp only at hsp
    subst hsp
    have hblt : b < W.heap.size := World.block_lt_of_cell? W _ h0 |> fun h => by simpa [block_add] using h
    refine ⟨b, off, rfl, hblt, hblt, fun j u hu => ?_⟩
    rw [List.getElem?_map] at hu
    cases hg : (zs.take len)[j]? with
    | none => rw [hg] at hu; simp at hu
    | some y =>
      rw [hg] at hu
      simp only [Option.map_some, Option.some.injEq] at hu
      subst hu
      have hj : j < (zs.take len).length := (List.getElem?_eq_some_iff.1 hg).1
      rw [hlen] at hj
      have := hcell j (by omega)
      rw [add_lit'] at this
      rw [this, List.getD_eq_getElem?_getD]
      rw [List.getElem?_take_of_lt hj] at hg
      rw [hg]
      rfl
end Go.Proofs.Ytggoigdlggenfaa
