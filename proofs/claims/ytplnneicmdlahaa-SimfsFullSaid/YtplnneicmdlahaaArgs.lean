/- Arguments, opened: what a row's reading of a slice says in this seat's words. -/

import Derived.Test.YtplnneicmdlahaaOctA
import Derived.Test.YtplnneicmdlahaaRow
import Derived.Test.YtplnneicmdlahaaConv
import Derived.ProofKit
import Derived.SliceStrings
import Derived.Deep.Matrix
import Derived.SizedLaws
import Derived.OpenShut
namespace Go.Proofs.Ytplnneicmdlahaa
open Go.RowKit Go.ChangeShapes Go.WideShapes Go.ChangeAt

theorem cells8 : Try.prog.cellsOf 5 = 1 := by kernel_rfl
theorem cellsI64 : Try.prog.cellsOf 2 = 1 := by kernel_rfl
theorem cellsS : Try.prog.cellsOf 9 = 1 := by kernel_rfl
theorem cellsB : Try.prog.cellsOf 22 = 1 := by kernel_rfl

theorem spot_of_cell {w : World} {a : Addr} {v : Value} (h : w.cell? a = some v) : a.spot = none ∧ a.block < w.heap.size := by
  refine ⟨?_, World.block_lt_of_cell? w a h⟩
  unfold World.cell? at h
  cases hs : a.spot with
  | none => rfl
  | some s =>
    split at h
    · simp [hs] at h
    · cases h
theorem add_zero (a : Addr) : a.add 0 = a := rfl
/-- Cells from an address on. -/
theorem vrd_of {w : World} {a : Addr} {vs : List Value} (h : ∀ i, (hi : i < vs.length) → w.cell? (a.add i) = some vs[i]) : VRd w (some a) vs := fun i hi => by
  have h0 := spot_of_cell (h 0 (by omega))
  rw [add_zero] at h0
  obtain ⟨b, o, s⟩ := a
  have hs : s = none := h0.1
  subst hs
  refine ⟨b, o, rfl, ?_⟩
  rw [← add_lit]
  exact h i hi
theorem bts_of {w : World} {A : Option Addr} {n c : Nat} {Z : List Int} (hnc : n ≤ c) (hcm : c ≤ maxLen) (hz : Z.length = c) (hwf : ∀ x ∈ Z, (Lit.int .u8 x).wf = true) (h0 : A = none → c = 0)
    (hc : ∀ a, A = some a → ∀ i, i < c → w.cell? (a.add i) = some (.int .u8 (Z.getD i 0))) : ∃ xs : List UInt8, xs.length = n ∧ Bts w (.slice A n c) xs := by
  have hl : ((Z.take n).map fun x => UInt8.ofNat x.toNat).length = n := by simp; omega
  refine ⟨(Z.take n).map fun x => UInt8.ofNat x.toNat, hl, A, c, by rw [hl], by omega, hcm, h0, fun hcp a ha => ?_, fun i hi => ?_⟩
  · have := hc a ha 0 hcp
    rw [add_zero] at this
    exact spot_of_cell this
  · rw [hl] at hi
    cases A with
    | none => have := h0 rfl; omega
    | some a =>
      have h1 := hc a rfl 0 (by omega)
      rw [add_zero] at h1
      have h2 := spot_of_cell h1
      obtain ⟨b, o, s⟩ := a
      have hs : s = none := h2.1
      subst hs
      refine ⟨b, o, rfl, ?_⟩
      rw [← add_lit, hc _ rfl i (by omega)]
      have hzi : i < Z.length := by omega
      have hb := hwf _ (List.getElem_mem hzi)
      simp only [List.getElem_map, List.getElem_take]
      rw [List.getD_eq_getElem?_getD, List.getElem?_eq_getElem hzi]
      simp only [Option.getD_some]
      congr 2
      have hb2 := bounds_u8 hb
      simp
      omega

section
variable {H : Type} {enc : TypeId × Value → H} {w : World} {held : Bool} {fuel : Nat}
theorem op_bytes {A : Option Addr} {n c : Nat} {x : DataW H × List MemPlace} (h : DataW.trod enc Try.prog w 0 (fun _ => true) held fuel 22 [.slice A n c] = some x) :
    (∃ xs : List UInt8, xs.length = n ∧ Bts w (.slice A n c) xs) ∧ (c = 0 ∨ ∃ el sp, x.1 = .slice el sp ∧ el.length + sp.length = c) := by
  rcases open_ints Try.underlying22 Try.underlying5 cells8 h with ⟨hcs, hx⟩ | ⟨a, len, cap, zs, hcs, _, hl, hm, hz, hx, hcell, hwz⟩
  · simp at hcs
    obtain ⟨rfl, rfl, rfl⟩ := hcs
    exact ⟨⟨[], rfl, Bts.nil w⟩, .inl rfl⟩
  · simp at hcs
    obtain ⟨rfl, rfl, rfl⟩ := hcs
    simp only [if_true] at hz
    refine ⟨bts_of hl hm hz hwz (fun e => by cases e) (fun a' ha i hi => by cases ha; exact hcell i (by omega)), .inr ⟨_, _, by rw [hx], by simp [lits]; omega⟩⟩
end
end Go.Proofs.Ytplnneicmdlahaa
