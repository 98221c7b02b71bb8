/- append onto []byte{}: a copy in new memory. -/

import Derived.Test.YtplnneicmdlahaaRow
import Derived.Test.YtplnneicmdlahaaConv
import Derived.Lib.Walk
namespace Go.Proofs.Ytplnneicmdlahaa
open Go.RowKit Go.Lib
section
variable {P : Program} {w : World} {ops : Array Oper} {rest : List Oper} {o : Oper} {a : Act} {Q : Exit → Act → World → Prop}
/-- append([]byte{}, x...): a copy. -/
theorem app_lit0 (hgd : o.guard = none) (s x : Operand) (t e : TypeId) (z : Value) (bytes : Nat) (ho : o.op = .call { callee := .builtin .append, args := #[s, x], argTypes := #[t, t] })
    (ht : P.underlying t = some (.slice e)) (hi : (P.info? e).map (fun i => (i.zero, i.size, i.bytes)) = some (some z, 1, bytes)) (hzs : z.cells.size = 1)
    (g : Nat) (hg : g = w.heap.size) (hs : a.eval s = .slice (some ⟨g, 0, none⟩) 0 0)
    (B : Option Addr) (m c : Nat) (news : List Value) (hx : a.eval x = .slice B m c) (hl : news.length = m) (hnews : VRd w B news) (h1 : ∀ u ∈ news, u.oneCell' = true)
    (h63 : m ≤ 9223372036854775807) (hbytes : m * bytes ≤ 140737488355328)
    (h : ∀ A' c' w', OwnV w' e (.slice A' m c') news → Keeps NoB w w' → Fresh w (.slice A' m c') → wpList P ops Q rest (a.put o.dst (.slice A' m c')) w') : wpList P ops Q (o :: rest) a (w.alloc (.cells #[] e)) := by
  subst hg
  refine app_any hgd s x t e z bytes ho ht hi hzs _ [] hs (own_lit w e [] (by simp)) B m c news hx hl ((hnews.keeps ((Keeps.refl NoB w).alloc _) (fun _ _ _ _ f => f))) h1 (by simpa using h63) (by simpa using hbytes) ?_
  intro A' c' w' hO hK hG
  simp only [List.length_nil, Nat.zero_add, List.nil_append] at hO hK hG ⊢
  exact h A' c' w' hO (((Keeps.refl NoB w).alloc _).fresh (fresh_lit w _ _) hK) ((fresh_lit w 0 0).grew (w1 := w.alloc (.cells #[] e)) (by simp) hG)
end
end Go.Proofs.Ytplnneicmdlahaa
