/- Arguments, opened: rows of bytes, with their sizes. -/
import Derived.Test.YthelafgdegkkkaaEnd
namespace Go.Proofs.Ythelafgdegkkkaa
open Go.RowKit Go.ChangeShapes Go.WideShapes Go.ChangeAt
section
variable {H : Type} {enc : TypeId × Value → H} {w : World} {held : Bool} {fuel : Nat}
theorem op_rows_sz {A : Option Addr} {n c : Nat} {x : DataW H × List MemPlace} (h : DataW.trod enc Try.prog w 0 (fun _ => true) held fuel 48 [.slice A n c] = some x) :
    ∃ ls : List (List UInt8), ls.length = n ∧ LRd w A ls ∧ n ≤ maxLen ∧ ∀ s ∈ ls, s.length = 0 ∨ ∃ el sp l2 s2, x.1 = .slice el sp ∧ DataW.slice l2 s2 ∈ el ∧ s.length ≤ l2.length + s2.length := by
  rcases Go.Deep.open_int_rows Try.underlying48 Try.underlying22 Try.underlying5 cellsB cells8 h with ⟨hcs, hx⟩ | ⟨a, len, cap, AA, L, C, Z, hcs, _, hl, hm, hx, hr⟩
  · simp at hcs
    obtain ⟨rfl, rfl, rfl⟩ := hcs
    exact ⟨[], rfl, ⟨[], rfl, (fun i hi => by simp at hi), fun i hi => by simp at hi⟩, Nat.zero_le _, by simp⟩
  · simp at hcs
    obtain ⟨rfl, rfl, rfl⟩ := hcs
    have each : ∀ r : Fin n, ∃ xs : List UInt8, xs.length = L r ∧ Bts w (.slice (AA r) (L r) (C r)) xs := fun r => by
      obtain ⟨_, h1, h2, h3, h4, h5, h6⟩ := hr r (by have := r.isLt; omega)
      exact bts_of h1 h2 h3 h4 h5 (fun a' ha i hi => (h6 a' ha).2 i hi)
    refine ⟨(List.finRange n).map fun r => (each r).choose, by simp, ⟨(List.range n).map fun r => .slice (AA r) (L r) (C r), by simp, vrd_of fun i hi => ?_, fun i hi hi' => ?_⟩, by omega, fun s hs => ?_⟩
    · simp at hi
      simp
      exact (hr i (by omega)).1
    · simp at hi
      have := (each ⟨i, hi⟩).choose_spec
      simp
      exact this.2
    · obtain ⟨r, _, rfl⟩ := List.mem_map.1 hs
      have h1 := (each r).choose_spec.1
      rw [h1]
      obtain ⟨_, h2, _, h4, _, h5, _⟩ := hr r (by have := r.isLt; omega)
      cases hA : AA r with
      | none => have := h5 hA; left; omega
      | some a' =>
        right
        refine ⟨_, _, lits IntKind.u8 ((Z r).take (L r)), lits IntKind.u8 ((Z r).drop (L r)), congrArg Prod.fst hx, List.mem_map.2 ⟨r, by simp, by simp [Go.Deep.intRow, hA]⟩, ?_⟩
        simp [lits]
        omega
theorem op_rows_cap {A : Option Addr} {n c : Nat} {x : DataW H × List MemPlace} (h : DataW.trod enc Try.prog w 0 (fun _ => true) held fuel 48 [.slice A n c] = some x) :
    n ≤ c ∧ c ≤ maxLen ∧ (0 < c → ∀ a, A = some a → a.spot = none) := by
  rcases Go.Deep.open_int_rows Try.underlying48 Try.underlying22 Try.underlying5 cellsB cells8 h with ⟨hcs, hx⟩ | ⟨a, len, cap, AA, L, C, Z, hcs, _, hl, hm, hx, hr⟩
  · simp at hcs
    obtain ⟨rfl, rfl, rfl⟩ := hcs
    exact ⟨Nat.le_refl _, Nat.zero_le _, fun h => absurd h (Nat.lt_irrefl _)⟩
  · simp at hcs
    obtain ⟨rfl, rfl, rfl⟩ := hcs
    refine ⟨hl, hm, fun hc a' ha => ?_⟩
    cases ha
    have := (hr 0 hc).1
    rw [add_zero] at this
    exact (spot_of_cell this).1
end
end Go.Proofs.Ythelafgdegkkkaa
