/- Arguments, opened: what a row's reading of a slice says in this seat's words. -/
import Derived.Test.YtdjamijbhaplgaaOctL
import Derived.Test.YtdjamijbhaplgaaOctA
import Derived.Test.YtdjamijbhaplgaaRow
import Derived.Test.YtdjamijbhaplgaaConv
import Derived.ProofKit
import Derived.SliceStrings
import Derived.Deep.Matrix
import Derived.SizedLaws
import Derived.OpenShut
namespace Go.Proofs.Ytdjamijbhaplgaa
open Go.RowKit Go.ChangeShapes Go.WideShapes Go.ChangeAt

theorem cells8 : Try.prog.cellsOf 5 = 1 := by kernel_rfl
theorem cells64 : Try.prog.cellsOf 115 = 1 := by kernel_rfl
theorem cellsI64 : Try.prog.cellsOf 2 = 1 := by kernel_rfl
theorem cellsS : Try.prog.cellsOf 9 = 1 := by kernel_rfl
theorem cellsB : Try.prog.cellsOf 26 = 1 := by kernel_rfl

theorem spot_of_cell {w : World} {a : Addr} {v : Value} (h : w.cell? a = some v) : a.spot = none ∧ a.block < w.heap.size := by
  refine ⟨?_, World.block_lt_of_cell? w a h⟩
  unfold World.cell? at h
  cases hs : a.spot with
  | none => rfl
  | some s =>
    split at h
    · simp [hs] at h
    · cases h
theorem add_zero (a : Addr) : a.add 0 = a := rfl
/-- Cells from an address on. -/
theorem vrd_of {w : World} {a : Addr} {vs : List Value} (h : ∀ i, (hi : i < vs.length) → w.cell? (a.add i) = some vs[i]) : VRd w (some a) vs := fun i hi => by
  have h0 := spot_of_cell (h 0 (by omega))
  rw [add_zero] at h0
  obtain ⟨b, o, s⟩ := a
  have hs : s = none := h0.1
  subst hs
  refine ⟨b, o, rfl, ?_⟩
  rw [← add_lit]
  exact h i hi
theorem bts_of {w : World} {A : Option Addr} {n c : Nat} {Z : List Int} (hnc : n ≤ c) (hcm : c ≤ maxLen) (hz : Z.length = c) (hwf : ∀ x ∈ Z, (Lit.int .u8 x).wf = true) (h0 : A = none → c = 0)
    (hc : ∀ a, A = some a → ∀ i, i < c → w.cell? (a.add i) = some (.int .u8 (Z.getD i 0))) : ∃ xs : List UInt8, xs.length = n ∧ Bts w (.slice A n c) xs := by
  have hl : ((Z.take n).map fun x => UInt8.ofNat x.toNat).length = n := by simp; omega
  refine ⟨(Z.take n).map fun x => UInt8.ofNat x.toNat, hl, A, c, by rw [hl], by omega, hcm, h0, fun hcp a ha => ?_, fun i hi => ?_⟩
  · have := hc a ha 0 hcp
    rw [add_zero] at this
    exact spot_of_cell this
  · rw [hl] at hi
    cases A with
    | none => have := h0 rfl; omega
    | some a =>
      have h1 := hc a rfl 0 (by omega)
      rw [add_zero] at h1
      have h2 := spot_of_cell h1
      obtain ⟨b, o, s⟩ := a
      have hs : s = none := h2.1
      subst hs
      refine ⟨b, o, rfl, ?_⟩
      rw [← add_lit, hc _ rfl i (by omega)]
      have hzi : i < Z.length := by omega
      have hb := hwf _ (List.getElem_mem hzi)
      simp only [List.getElem_map, List.getElem_take]
      rw [List.getD_eq_getElem?_getD, List.getElem?_eq_getElem hzi]
      simp only [Option.getD_some]
      congr 2
      have hb2 := bounds_u8 hb
      simp
      omega

section
variable {H : Type} {enc : TypeId × Value → H} {w : World} {held : Bool} {fuel : Nat}
theorem op_bytes {A : Option Addr} {n c : Nat} {x : DataW H × List MemPlace} (h : DataW.trod enc Try.prog w 0 (fun _ => true) held fuel 26 [.slice A n c] = some x) :
    (∃ xs : List UInt8, xs.length = n ∧ Bts w (.slice A n c) xs) ∧ (c = 0 ∨ ∃ el sp, x.1 = .slice el sp ∧ el.length + sp.length = c) := by
  rcases open_ints Try.underlying26 Try.underlying5 cells8 h with ⟨hcs, hx⟩ | ⟨a, len, cap, zs, hcs, _, hl, hm, hz, hx, hcell, hwz⟩
  · simp at hcs
    obtain ⟨rfl, rfl, rfl⟩ := hcs
    exact ⟨⟨[], rfl, Bts.nil w⟩, .inl rfl⟩
  · simp at hcs
    obtain ⟨rfl, rfl, rfl⟩ := hcs
    simp only [if_true] at hz
    refine ⟨bts_of hl hm hz hwz (fun e => by cases e) (fun a' ha i hi => by cases ha; exact hcell i (by omega)), .inr ⟨_, _, by rw [hx], by simp [lits]; omega⟩⟩
theorem op_u64s {A : Option Addr} {n c : Nat} {x : DataW H × List MemPlace} (h : DataW.trod enc Try.prog w 0 (fun _ => true) held fuel 122 [.slice A n c] = some x) :
    ∃ ns : List Nat, ns.length = n ∧ VRd w A (u64s ns) ∧ (∀ m ∈ ns, m < 18446744073709551616) ∧ n ≤ maxLen := by
  rcases open_ints Try.underlying122 Try.underlying115 cells64 h with ⟨hcs, hx⟩ | ⟨a, len, cap, zs, hcs, _, hl, hm, hz, hx, hcell, hwz⟩
  · simp at hcs
    obtain ⟨rfl, rfl, rfl⟩ := hcs
    exact ⟨[], rfl, (fun i hi => by simp [u64s] at hi), by simp, Nat.zero_le _⟩
  · simp at hcs
    obtain ⟨rfl, rfl, rfl⟩ := hcs
    simp only [if_true] at hz
    have hb : ∀ x ∈ zs, 0 ≤ x ∧ x < 18446744073709551616 := fun x hx => by
      have := bounds_u64 (hwz x hx)
      omega
    refine ⟨(zs.take n).map Int.toNat, by simp; omega, vrd_of fun i hi => ?_, fun m hm => ?_, by omega⟩
    · have hi' : i < zs.length := by simp [u64s] at hi; omega
      rw [hcell i hi', List.getD_eq_getElem?_getD, List.getElem?_eq_getElem hi']
      have := hb _ (List.getElem_mem hi')
      simp [u64s]
      omega
    · obtain ⟨x, hx, rfl⟩ := List.mem_map.1 hm
      have := hb x (List.mem_of_mem_take hx)
      omega
theorem op_i64s {A : Option Addr} {n c : Nat} {x : DataW H × List MemPlace} (h : DataW.trod enc Try.prog w 0 (fun _ => true) held fuel 34 [.slice A n c] = some x) :
    ∃ ns : List Int, ns.length = n ∧ VRd w A (i64s ns) ∧ (∀ m ∈ ns, -9223372036854775808 ≤ m ∧ m ≤ 9223372036854775807) ∧ n ≤ maxLen := by
  rcases open_ints Try.underlying34 Try.underlying2 cellsI64 h with ⟨hcs, hx⟩ | ⟨a, len, cap, zs, hcs, _, hl, hm, hz, hx, hcell, hwz⟩
  · simp at hcs
    obtain ⟨rfl, rfl, rfl⟩ := hcs
    exact ⟨[], rfl, (fun i hi => by simp [i64s] at hi), by simp, Nat.zero_le _⟩
  · simp at hcs
    obtain ⟨rfl, rfl, rfl⟩ := hcs
    simp only [if_true] at hz
    refine ⟨zs.take n, by simp; omega, vrd_of fun i hi => ?_, fun m hm => ?_, by omega⟩
    · have hi' : i < zs.length := by simp [i64s] at hi; omega
      rw [hcell i hi', List.getD_eq_getElem?_getD, List.getElem?_eq_getElem hi']
      simp [i64s]
    · have := bounds_i64 (hwz m (List.mem_of_mem_take hm))
      omega
theorem op_strs {A : Option Addr} {n c : Nat} {x : DataW H × List MemPlace} (h : DataW.trod enc /- 34 -/ Try.prog w 0 (fun _ => true) held fuel 37 [.slice A n c] = some x) :
    ∃ l : List (List UInt8), l.length = n ∧ VRd w A (strs l) ∧ n ≤ maxLen ∧ ((A = none ∧ n = 0) ∨ ∃ el sp, x.1 = .slice el sp ∧ el = l.map fun s => DataW.lit (Lit.string s)) := by
  rcases open_strings Try.underlying37 Try.underlying9 cellsS h with ⟨hcs, hx⟩ | ⟨a, len, cap, ss, hcs, _, hl, hm, hz, hx, hcell, hws⟩
  · simp at hcs
    obtain ⟨rfl, rfl, rfl⟩ := hcs
    exact ⟨[], rfl, (fun i hi => by simp [strs] at hi), Nat.zero_le _, .inl ⟨rfl, rfl⟩⟩
  · simp at hcs
    obtain ⟨rfl, rfl, rfl⟩ := hcs
    simp only [if_true] at hz
    refine ⟨(ss.take n).map fun s => s.data.toList, by simp; omega, vrd_of fun i hi => ?_, by omega, .inr ⟨_, _, by rw [hx], ?_⟩⟩
    · have hi' : i < ss.length := by simp [strs] at hi; omega
      rw [hcell i hi', List.getD_eq_getElem?_getD, List.getElem?_eq_getElem hi']
      simp [strs, sOf_eq]
    · simp [ChangeShapes.strs]; rfl
theorem op_rows {A : Option Addr} {n c : Nat} {x : DataW H × List MemPlace} (h : DataW.trod enc Try.prog w 0 (fun _ => true) held fuel 77 [.slice A n c] = some x) :
    ∃ ls : List (List UInt8), ls.length = n ∧ LRd w A ls ∧ n ≤ maxLen := by
  rcases Go.Deep.open_int_rows Try.underlying77 Try.underlying26 Try.underlying5 cellsB cells8 h with ⟨hcs, hx⟩ | ⟨a, len, cap, AA, L, C, Z, hcs, _, hl, hm, hx, hr⟩
  · simp at hcs
    obtain ⟨rfl, rfl, rfl⟩ := hcs
    exact ⟨[], rfl, ⟨[], rfl, (fun i hi => by simp at hi), fun i hi => by simp at hi⟩, Nat.zero_le _⟩
  · simp at hcs
    obtain ⟨rfl, rfl, rfl⟩ := hcs
    have each : ∀ r : Fin n, ∃ xs : List UInt8, xs.length = L r ∧ Bts w (.slice (AA r) (L r) (C r)) xs := fun r => by
      obtain ⟨_, h1, h2, h3, h4, h5, h6⟩ := hr r (by have := r.isLt; omega)
      exact bts_of h1 h2 h3 h4 h5 (fun a' ha i hi => (h6 a' ha).2 i hi)
    refine ⟨(List.finRange n).map fun r => (each r).choose, by simp, ⟨(List.range n).map fun r => .slice (AA r) (L r) (C r), by simp, vrd_of fun i hi => ?_, fun i hi hi' => ?_⟩, by omega⟩
    · simp at hi
      simp
      exact (hr i (by omega)).1
    · simp at hi
      have := (each ⟨i, hi⟩).choose_spec
      simp
      exact this.2
end
end Go.Proofs.Ytdjamijbhaplgaa
