/- Arguments, opened: what a row's reading of a slice says in this seat's words. -/

import Derived.ProofKit
import Derived.SliceStrings
import Derived.Deep.Matrix
import Derived.SizedLaws
import Derived.OpenShut
import Derived.Test.YtlhhcoijkjcneaaGreatChecked
import Derived.Test.YtlhhcoijkjcneaaGreatRows
import Derived.Carry
import Derived.JoinedOf
import Derived.Lib.Walk
import Derived.Test.YtlhhcoijkjcneaaGreatGa
namespace Go.Proofs.YtlhhcoijkjcneaaGreat
open Go.RowKit Go.ChangeShapes Go.WideShapes Go.ChangeAt

theorem cells8 : Tryz.prog.cellsOf 5 = 1 := by kernel_rfl
theorem cells64 : Tryz.prog.cellsOf 158 = 1 := by kernel_rfl
theorem cellsI64 : Tryz.prog.cellsOf 2 = 1 := by kernel_rfl
theorem cellsS : Tryz.prog.cellsOf 9 = 1 := by kernel_rfl
theorem cellsB : Tryz.prog.cellsOf 38 = 1 := by kernel_rfl

theorem spot_of_cell {w : World} {a : Addr} {v : Value} (h : w.cell? a = some v) : a.spot = none ∧ a.block < w.heap.size := by
  refine ⟨?_, World.block_lt_of_cell? w a h⟩
  unfold World.cell? at h
  cases hs : a.spot with
  | none => rfl
  | some s =>
    split at h
    · simp [hs] at h
    · cases h
theorem add_zero (a : Addr) : a.add 0 = a := rfl
/-- Cells from an address on. -/
theorem vrd_of {w : World} {a : Addr} {vs : List Value} (h : ∀ i, (hi : i < vs.length) → w.cell? (a.add i) = some vs[i]) : VRd w (some a) vs := fun i hi => by
  have h0 := spot_of_cell (h 0 (by omega))
  rw [add_zero] at h0
  obtain ⟨b, o, s⟩ := a
  have hs : s = none := h0.1
  subst hs
  refine ⟨b, o, rfl, ?_⟩
  rw [← add_lit]
  exact h i hi
theorem bts_of {w : World} {A : Option Addr} {n c : Nat} {Z : List Int} (hnc : n ≤ c) (hcm : c ≤ maxLen) (hz : Z.length = c) (hwf : ∀ x ∈ Z, (Lit.int .u8 x).wf = true) (h0 : A = none → c = 0)
    (hc : ∀ a, A = some a → ∀ i, i < c → w.cell? (a.add i) = some (.int .u8 (Z.getD i 0))) : ∃ xs : List UInt8, xs.length = n ∧ Bts w (.slice A n c) xs := by
  have hl : ((Z.take n).map fun x => UInt8.ofNat x.toNat).length = n := by simp; omega
  refine ⟨(Z.take n).map fun x => UInt8.ofNat x.toNat, hl, A, c, by rw [hl], by omega, hcm, h0, fun hcp a ha => ?_, fun i hi => ?_⟩
  · have := hc a ha 0 hcp
    rw [add_zero] at this
    exact spot_of_cell this
  · rw [hl] at hi
    cases A with
    | none => have := h0 rfl; omega
    | some a =>
      have h1 := hc a rfl 0 (by omega)
      rw [add_zero] at h1
      have h2 := spot_of_cell h1
      obtain ⟨b, o, s⟩ := a
      have hs : s = none := h2.1
      subst hs
      refine ⟨b, o, rfl, ?_⟩
      rw [← add_lit, hc _ rfl i (by omega)]
      have hzi : i < Z.length := by omega
      have hb := hwf _ (List.getElem_mem hzi)
      simp only [List.getElem_map, List.getElem_take]
      rw [List.getD_eq_getElem?_getD, List.getElem?_eq_getElem hzi]
      simp only [Option.getD_some]
      congr 2
      have hb2 := bounds_u8 hb
      simp
      omega

section
variable {H : Type} {enc : TypeId × Value → H} {w : World} {held : Bool} {fuel : Nat}
theorem op_bytes {A : Option Addr} {n c : Nat} {x : DataW H × List MemPlace} (h : DataW.trod enc Tryz.prog w 0 (fun _ => true) held fuel 38 [.slice A n c] = some x) :
    (∃ xs : List UInt8, xs.length = n ∧ Bts w (.slice A n c) xs) ∧ (c = 0 ∨ ∃ el sp, x.1 = .slice el sp ∧ el.length + sp.length = c) := by
  rcases open_ints Tryz.underlying38 Tryz.underlying5 cells8 h with ⟨hcs, hx⟩ | ⟨a, len, cap, zs, hcs, _, hl, hm, hz, hx, hcell, hwz⟩
  · simp at hcs
    obtain ⟨rfl, rfl, rfl⟩ := hcs
    exact ⟨⟨[], rfl, Bts.nil w⟩, .inl rfl⟩
  · simp at hcs
    obtain ⟨rfl, rfl, rfl⟩ := hcs
    simp only [if_true] at hz
    refine ⟨bts_of hl hm hz hwz (fun e => by cases e) (fun a' ha i hi => by cases ha; exact hcell i (by omega)), .inr ⟨_, _, by rw [hx], by simp [lits]; omega⟩⟩
end
end Go.Proofs.YtlhhcoijkjcneaaGreat
namespace Go.Proofs.YtlhhcoijkjcneaaGreat
open Go.RowKit Go.ChangeShapes Go.WideShapes Go.ChangeAt

theorem laidOut : laidOutB Tryz.prog = true := by kernel_rfl
section
variable {H : Type} {enc : TypeId × Value → H} {P : Program}
/-- Arguments read as they did where no block of before has changed. -/
theorem trodAll_stays (hl : laidOutB P = true) {W W' : World} (hb : Below W.heap.size W W') : ∀ {ts : List TypeId} {vs : List Value} {ds : List (DataW H)} {ps : List MemPlace},
    ts.all (fun t => P.readableRec t && decide (t < P.types.size)) = true → DataW.TrodAll enc P W 0 (fun _ => true) true ts vs ds ps → (∀ x ∈ ps, x.block < W.heap.size) →
    DataW.TrodAll enc P W' 0 (fun b => decide (b < W.heap.size)) true ts vs ds ps
  | [], vs, ds, ps, _, h, _ => by
    cases vs <;> cases ds <;> simp [DataW.TrodAll] at h ⊢
    exact h
  | t :: ts, vs, ds, ps, hr, h, hlt => by
    obtain ⟨v, vs', d, ds', p, q, rfl, rfl, rfl, h0, h1⟩ := trodAll_cons h
    simp only [List.all_cons, Bool.and_eq_true, decide_eq_true_eq] at hr
    exact trodAll_cons_mk (Below.trod hl hr.1.1 hr.1.2 h0 hb (fun x hx => hlt x (List.mem_append.2 (.inl hx)))) (trodAll_stays hl hb hr.2 h1 (fun x hx => hlt x (List.mem_append.2 (.inr hx))))
theorem weights_all {e : TypeId} {n : Nat} : ∀ {l : List (DataW H)} {d : DataW H}, d ∈ l → n ∈ d.weights P e → n ∈ DataW.weightsAll P e l
  | x :: l, d, hd, hn => by
    simp only [DataW.weightsAll, List.mem_append]
    rcases List.mem_cons.1 hd with rfl | hd
    · exact .inl hn
    · exact .inr (weights_all hd hn)
/-- The strings among a slice's elements are within the reach. -/
theorem sized_strs {ts : List TypeId} {ds : List (DataW H)} (h : (DataW.weightsEach P ts ds).all (· ≤ reachBytes) = true) {j : Nat} {t e : TypeId} {el sp : List (DataW H)} (ht : ts[j]? = some t) (hd : ds[j]? = some (.slice el sp)) (hu : P.underlying t = some (.slice e))
    {s : List UInt8} (hs : DataW.lit (Lit.string s) ∈ el) : s.length ≤ reachBytes := by
  have := List.all_eq_true.1 h _ (DataW.weights_mem_each ht hd s.length (by simp only [DataW.weights, hu]; exact List.mem_cons_of_mem _ (List.mem_append.2 (.inl (weights_all hs (by simp [DataW.weights]))))))
  simpa using this
/-- The bytes of a slice within another are within the reach. -/
theorem sized_row {ts : List TypeId} {ds : List (DataW H)} (h : (DataW.weightsEach P ts ds).all (· ≤ reachBytes) = true) {j : Nat} {t e e2 : TypeId} {el sp : List (DataW H)} (ht : ts[j]? = some t) (hd : ds[j]? = some (.slice el sp)) (hu : P.underlying t = some (.slice e)) (hu2 : P.underlying e = some (.slice e2))
    {l2 s2 : List (DataW H)} (hs : DataW.slice l2 s2 ∈ el) : (l2.length + s2.length) * P.bytesOf e2 ≤ reachBytes := by
  have := List.all_eq_true.1 h _ (DataW.weights_mem_each ht hd ((l2.length + s2.length) * P.bytesOf e2) (by simp only [DataW.weights, hu]; exact List.mem_cons_of_mem _ (List.mem_append.2 (.inl (weights_all hs (by simp [DataW.weights, hu2]))))))
  simpa using this
end
theorem bytes8 : Tryz.prog.bytesOf 5 = 1 := by kernel_rfl
end Go.Proofs.YtlhhcoijkjcneaaGreat
namespace Go.Proofs.YtlhhcoijkjcneaaGreat
open Go.RowKit Go.Lib
section
variable {P : Program} {w : World} {ops : Array Oper} {rest : List Oper} {o : Oper} {a : Act} {Q : Exit → Act → World → Prop}
/-- append([]byte{}, x...): a copy. -/
theorem app_lit0 (hgd : o.guard = none) (s x : Operand) (t e : TypeId) (z : Value) (bytes : Nat) (ho : o.op = .call { callee := .builtin .append, args := #[s, x], argTypes := #[t, t] })
    (ht : P.underlying t = some (.slice e)) (hi : (P.info? e).map (fun i => (i.zero, i.size, i.bytes)) = some (some z, 1, bytes)) (hzs : z.cells.size = 1)
    (g : Nat) (hg : g = w.heap.size) (hs : a.eval s = .slice (some ⟨g, 0, none⟩) 0 0)
    (B : Option Addr) (m c : Nat) (news : List Value) (hx : a.eval x = .slice B m c) (hl : news.length = m) (hnews : VRd w B news) (h1 : ∀ u ∈ news, u.oneCell' = true)
    (h63 : m ≤ 9223372036854775807) (hbytes : m * bytes ≤ 140737488355328)
    (h : ∀ A' c' w', OwnV w' e (.slice A' m c') news → Keeps NoB w w' → Fresh w (.slice A' m c') → wpList P ops Q rest (a.put o.dst (.slice A' m c')) w') : wpList P ops Q (o :: rest) a (w.alloc (.cells #[] e)) := by
  subst hg
  refine app_any hgd s x t e z bytes ho ht hi hzs _ [] hs (own_lit w e [] (by simp)) B m c news hx hl ((hnews.keeps ((Keeps.refl NoB w).alloc _) (fun _ _ _ _ f => f))) h1 (by simpa using h63) (by simpa using hbytes) ?_
  intro A' c' w' hO hK hG
  simp only [List.length_nil, Nat.zero_add, List.nil_append] at hO hK hG ⊢
  exact h A' c' w' hO (((Keeps.refl NoB w).alloc _).fresh (fresh_lit w _ _) hK) ((fresh_lit w 0 0).grew (w1 := w.alloc (.cells #[] e)) (by simp) hG)
end
end Go.Proofs.YtlhhcoijkjcneaaGreat
