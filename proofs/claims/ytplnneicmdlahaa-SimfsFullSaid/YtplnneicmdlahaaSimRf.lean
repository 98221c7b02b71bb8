/- simfs: a range over the files. -/
import Derived.Test.YtplnneicmdlahaaSimCl
import Derived.Test.YtplnneicmdlahaaSimY
namespace Go.Proofs.Ytplnneicmdlahaa
open Go.RowKit Go.Maps Go.Lib

/-- The range over the map b that holds the files g, by the iterator r: left tells which numbers are still to come. -/
def RangeF (w : World) (b r N : Nat) (g : Nat → Option Nat) (left : Nat → Bool) : Prop :=
  ∃ D n lf cnt, w.ranges Try.prog 3 ptrR b r n D lf cnt ∧ n ≤ N ∧ (∀ k : Nat, D.atKey (.int .i64 k) .nil = match g k with | some fb => .lit (.int .u64 (fb : Nat)) | none => .nil) ∧
    (∀ kl, Maps.has D kl = true → ∃ k : Nat, kl = .int .i64 k ∧ (g k).isSome ∧ k ≤ 4611686018427387904) ∧ (∀ k : Nat, (g k).isSome → Maps.has D (.int .i64 k) = true) ∧ ∀ k : Nat, left k = lf (.int .i64 k)
theorem RangeF.keeps {F : Nat → Prop} {w w' : World} {b r N : Nat} {g : Nat → Option Nat} {left : Nat → Bool} (h : RangeF w b r N g left) (k : Keeps F w w') (hb : ¬ F b) (hr : ¬ F r) : RangeF w' b r N g left := by
  obtain ⟨D, n, lf, cnt, ⟨es, clock, since, seen, c0, h1, h2, h3, h4, h5, h6⟩, h7⟩ := h
  exact ⟨D, n, lf, cnt, ⟨es, clock, since, seen, c0, k.obj h1 hb, h2, h3, h4, k.obj h5 hr, h6⟩, h7⟩
theorem RangeF.left_keeps {F : Nat → Prop} {w w' : World} {b r N : Nat} {g : Nat → Option Nat} {left : Nat → Bool} (h : RangeF w b r N g left) (k : Keeps F w w') (hb : ¬ F b) (hr : ¬ F r) : w'.rangeLeft b r = w.rangeLeft b r := by
  obtain ⟨D, n, lf, cnt, ⟨es, clock, since, seen, c0, h1, h2, h3, h4, h5, h6⟩, h7⟩ := h
  have e1 := k.obj h1 hb
  have e2 := k.obj h5 hr
  unfold World.rangeLeft
  rw [e1, e2, h1, h5]
theorem RangeF.left_le {w : World} {b r N : Nat} {g : Nat → Option Nat} {left : Nat → Bool} (h : RangeF w b r N g left) : w.rangeLeft b r ≤ N := by
  obtain ⟨D, n, lf, cnt, hr, hn, _⟩ := h
  rw [hr.left_eq]
  obtain ⟨es, clock, since, seen, c0, h1, h2, h3, h4, h5, h6, h7, _⟩ := hr
  refine Nat.le_trans ?_ hn
  rw [← h7]
  refine Nat.le_trans ?_ h3
  unfold leftOf
  exact Array.size_filter_le
section
variable {w : World} {ops : Array Oper} {rest : List Oper} {o : Oper} {a : Act} {Q : Exit → Act → World → Prop}
theorem wpList_range_files (hg : o.guard = none) (m : Operand) (hop : o.op = Op.range 59 m) {b N : Nat} {g : Nat → Option Nat} (hm : a.eval m = .map (some b)) (h : MapF w b N g)
    (hK : ∀ w', RangeF w' b w.heap.size N g (fun k => (g k).isSome) → Keeps NoB w w' → w'.heap.size = w.heap.size + 1 → wpList Try.prog ops Q rest (a.put o.dst (.pointer (some ⟨w.heap.size, 0, none⟩))) w') :
    wpList Try.prog ops Q (o :: rest) a w := by
  obtain ⟨D, n, hown, hn, hr, hs1, hs2⟩ := h
  refine wpList_range_own w hg m _ hop _ _ keyI Try.underlying59 ptrR b _ D hm hown fun w' h1 h2 h3 => hK w' ⟨D, n, _, _, h1, hn, hr, hs1, hs2, fun k => ?_⟩ (Keeps.of_grown h2 (fun _ e => by cases e)) h3
  show (g k).isSome = Maps.has D (.int .i64 (k : Int))
  cases hk : (g k).isSome with
  | true => exact (hs2 k hk).symm
  | false =>
    cases hh : Maps.has D (.int .i64 (k : Int)) with
    | false => rfl
    | true =>
      obtain ⟨j, e, hj, _⟩ := hs1 _ hh
      have : k = j := Int.ofNat.inj (Lit.int.inj e).2
      subst this
      rw [hk] at hj; cases hj
set_option maxRecDepth 100000 in
theorem wpList_next_files (hg : o.guard = none) (it : Operand) (hop : o.op = Op.next it false) {b r N : Nat} {g : Nat → Option Nat} {left : Nat → Bool} (hit : a.eval it = .pointer (some ⟨r, 0, none⟩)) (h : RangeF w b r N g left)
    (hDone : (∀ k, left k = false) → wpList Try.prog ops Q rest (a.put o.dst (.tuple #[.bool false])) w)
    (hMore : ∀ (k fb : Nat) (w' : World), k ≤ 4611686018427387904 → g k = some fb → left k = true → RangeF w' b r N g (fun j => left j && j != k) →
      Keeps (OneB r) w w' → w'.rangeLeft b r < w.rangeLeft b r → (Instr.entry (.pointer (some ⟨r, 0, none⟩))).run Try.prog w' = .ok (.tuple #[.int .i64 (k : Nat), .pointer (some ⟨fb, 0, none⟩)]) w' → wpList Try.prog ops Q rest (a.put o.dst (.tuple #[.bool true, .int .i64 (k : Nat), .pointer (some ⟨fb, 0, none⟩)])) w') :
    wpList Try.prog ops Q (o :: rest) a w := by
  obtain ⟨D, n, lf, cnt, hrg, hn, hr, hs1, hs2, hl⟩ := h
  refine wpList_next_ranges w hg it hop _ keyI ptrR (Value.int .i64) Value.pointer (fun key kl hk => by obtain ⟨x, rfl, _⟩ := Maps.keyOf_int_inv Try.underlying3 hk; exact ⟨x, rfl⟩)
    (fun v y hv => by rcases ptrR_inv hv with ⟨rfl, _⟩ | ⟨fb, rfl, _⟩ <;> exact ⟨_, rfl⟩)
    b r _ D lf cnt hit hrg (fun _ h0 => hDone fun k => by rw [hl, h0]) (fun x c kl y w' cnt' hk hlk hv hat hrg' hlt hgr hsz hen => ?_)
  obtain ⟨x', ex, rfl, _⟩ := Maps.keyOf_int_inv Try.underlying3 hk
  cases ex
  have hhas := has_true_of_atKey hat
  obtain ⟨k, ek, hgk, hk62⟩ := hs1 _ hhas
  have hxk : x = (k : Int) := (Lit.int.inj ek).2
  subst hxk
  have h1 := hat .nil
  rw [hr k] at h1
  obtain ⟨fb, hfb⟩ := Option.isSome_iff_exists.1 hgk
  rw [hfb] at h1
  rcases ptrR_inv hv with ⟨_, hy⟩ | ⟨fb', hc, hy⟩
  · rw [hy] at h1; cases h1
  · rw [hy] at h1
    injection h1 with h1
    injection h1 with _ h1
    have : fb = fb' := Int.ofNat.inj h1
    subst this
    injection hc with hc
    subst hc
    refine hMore k fb w' hk62 hfb (by rw [hl]; exact hlk) ⟨D, n, _, _, hrg', hn, hr, hs1, hs2, fun j => ?_⟩ (Keeps.of_grown hgr (fun b' hb _ => by cases hb; rfl)) (by rw [hrg'.left_eq, hrg.left_eq]; exact hlt) hen
    have hsk : (Lit.int .i64 (j : Int)).sameKey (.int .i64 (k : Int)) = decide (j = k) := by
      by_cases hjk : j = k
      · subst hjk; rw [decide_eq_true rfl]; unfold Lit.sameKey; simp
      · have : ¬ (j : Int) = (k : Int) := by omega
        rw [decide_eq_false hjk]; unfold Lit.sameKey; simp [this]
    show (left j && j != k) = (lf (.int .i64 (j : Int)) && !(Lit.int .i64 (j : Int)).sameKey (.int .i64 (k : Int)))
    rw [hl, hsk]
    by_cases hjk : j = k
    · rw [decide_eq_true hjk, hjk]; simp
    · rw [decide_eq_false hjk]; simp [hjk]
end
end Go.Proofs.Ytplnneicmdlahaa
