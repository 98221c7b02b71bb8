/- Laws that answer true and leave their arguments as they were: the ends of their proofs. -/
import Derived.Test.YtplnneicmdlahaaArgs
import Derived.Test.YtplnneicmdlahaaChecked
import Derived.Test.YtplnneicmdlahaaRows
import Derived.Carry
import Derived.JoinedOf
namespace Go.Proofs.Ytplnneicmdlahaa
open Go.RowKit Go.ChangeShapes Go.WideShapes Go.ChangeAt

theorem laidOut : laidOutB Try.prog = true := by kernel_rfl
section
variable {H : Type} {enc : TypeId × Value → H} {P : Program}
/-- Arguments read as they did where no block of before has changed. -/
theorem trodAll_stays (hl : laidOutB P = true) {W W' : World} (hb : Below W.heap.size W W') : ∀ {ts : List TypeId} {vs : List Value} {ds : List (DataW H)} {ps : List MemPlace},
    ts.all (fun t => P.readableRec t && decide (t < P.types.size)) = true → DataW.TrodAll enc P W 0 (fun _ => true) true ts vs ds ps → (∀ x ∈ ps, x.block < W.heap.size) →
    DataW.TrodAll enc P W' 0 (fun b => decide (b < W.heap.size)) true ts vs ds ps
  | [], vs, ds, ps, _, h, _ => by
    cases vs <;> cases ds <;> simp [DataW.TrodAll] at h ⊢
    exact h
  | t :: ts, vs, ds, ps, hr, h, hlt => by
    obtain ⟨v, vs', d, ds', p, q, rfl, rfl, rfl, h0, h1⟩ := trodAll_cons h
    simp only [List.all_cons, Bool.and_eq_true, decide_eq_true_eq] at hr
    exact trodAll_cons_mk (Below.trod hl hr.1.1 hr.1.2 h0 hb (fun x hx => hlt x (List.mem_append.2 (.inl hx)))) (trodAll_stays hl hb hr.2 h1 (fun x hx => hlt x (List.mem_append.2 (.inr hx))))
theorem weights_all {e : TypeId} {n : Nat} : ∀ {l : List (DataW H)} {d : DataW H}, d ∈ l → n ∈ d.weights P e → n ∈ DataW.weightsAll P e l
  | x :: l, d, hd, hn => by
    simp only [DataW.weightsAll, List.mem_append]
    rcases List.mem_cons.1 hd with rfl | hd
    · exact .inl hn
    · exact .inr (weights_all hd hn)
/-- The strings among a slice's elements are within the reach. -/
theorem sized_strs {ts : List TypeId} {ds : List (DataW H)} (h : (DataW.weightsEach P ts ds).all (· ≤ reachBytes) = true) {j : Nat} {t e : TypeId} {el sp : List (DataW H)} (ht : ts[j]? = some t) (hd : ds[j]? = some (.slice el sp)) (hu : P.underlying t = some (.slice e))
    {s : List UInt8} (hs : DataW.lit (Lit.string s) ∈ el) : s.length ≤ reachBytes := by
  have := List.all_eq_true.1 h _ (DataW.weights_mem_each ht hd s.length (by simp only [DataW.weights, hu]; exact List.mem_cons_of_mem _ (List.mem_append.2 (.inl (weights_all hs (by simp [DataW.weights]))))))
  simpa using this
/-- The bytes of a slice within another are within the reach. -/
theorem sized_row {ts : List TypeId} {ds : List (DataW H)} (h : (DataW.weightsEach P ts ds).all (· ≤ reachBytes) = true) {j : Nat} {t e e2 : TypeId} {el sp : List (DataW H)} (ht : ts[j]? = some t) (hd : ds[j]? = some (.slice el sp)) (hu : P.underlying t = some (.slice e)) (hu2 : P.underlying e = some (.slice e2))
    {l2 s2 : List (DataW H)} (hs : DataW.slice l2 s2 ∈ el) : (l2.length + s2.length) * P.bytesOf e2 ≤ reachBytes := by
  have := List.all_eq_true.1 h _ (DataW.weights_mem_each ht hd ((l2.length + s2.length) * P.bytesOf e2) (by simp only [DataW.weights, hu]; exact List.mem_cons_of_mem _ (List.mem_append.2 (.inl (weights_all hs (by simp [DataW.weights, hu2]))))))
  simpa using this
end
theorem bytes8 : Try.prog.bytesOf 5 = 1 := by kernel_rfl
end Go.Proofs.Ytplnneicmdlahaa
