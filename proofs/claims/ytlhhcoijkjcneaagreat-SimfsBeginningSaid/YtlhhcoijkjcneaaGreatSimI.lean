/- simfs: kinds of blocks; append of structs; changes. -/
import Derived.Test.YtlhhcoijkjcneaaGreatSimH
namespace Go.Proofs.YtlhhcoijkjcneaaGreat
open Go.RowKit Go.Maps Go.Lib

/-- What kind a block is: 0: no row; else its elements' type, and one. -/
def knd (w : World) (i : Nat) : Nat := match w.heap[i]? with
  | some (.cells _ t _) => t + 1
  | _ => 0
theorem knd_cells {w : World} {i : Nat} {cs : Array Value} {t : TypeId} {q : Nat × Nat} (h : w.heap[i]? = some (.cells cs t q)) : knd w i = t + 1 := by unfold knd; rw [h]
theorem knd_map {w : World} {i : Nat} {es : Array MapEntry} {c : Nat} (h : w.heap[i]? = some (.map es c)) : knd w i = 0 := by unfold knd; rw [h]
theorem OwnW.knd {w : World} {e : TypeId} {size n : Nat} {v : Value} {xs : List Value} (h : OwnW w e size v n xs) {k : Nat} (hk : v.ownBlock = some k) : knd w k = e + 1 := by
  obtain ⟨cur, hb⟩ := h.blk hk
  exact knd_cells hb
theorem MapN.knd {w : World} {b : Nat} {d : Dir} (h : MapN w b d) : knd w b = 0 := by obtain ⟨es, c, hb⟩ := h.isMap; exact knd_map hb
theorem MapF.knd {w : World} {b N : Nat} {g : Nat → Option Nat} (h : MapF w b N g) : knd w b = 0 := by obtain ⟨es, c, hb⟩ := h.isMap; exact knd_map hb
theorem notU8_knd {w : World} {F : Nat → Prop} (h : ∀ i, F i → knd w i ≠ 5 + 1) : NotU8 w F := fun i hi cur q hb => h i hi (knd_cells hb)
theorem IsFile.keepsK {F : Nat → Prop} {w w' : World} {f : FMem} {x : FileS} (h : IsFile w f x) (k : Keeps F w w') (hF : ∀ i, F i → knd w i ≠ 91 + 1 ∧ knd w i ≠ 104 + 1 ∧ knd w i ≠ 5 + 1) : IsFile w' f x :=
  h.keeps k (fun i hi f => by
    rcases hi with rfl | hi
    · exact (hF _ f).1 (knd_cells h.blk)
    · exact (hF _ f).2.1 (OwnW.knd h.log hi)) (notU8_knd fun i hi => (hF i hi).2.2)

section
variable {P : Program} {w : World} {ops : Array Oper} {o : Oper} {a : Act} {Q : Exit → Act → World → Prop}
/-- append of structs onto an owned row. -/
theorem wp_app_w {K : Act → World → Prop} (s x : Operand) (t e : TypeId) (z : Value) (size bytes : Nat) (ho : o.op = .call { callee := .builtin .append, args := #[s, x], argTypes := #[t, t] })
    (ht : P.underlying t = some (.slice e)) (hi : (P.info? e).map (fun i => (i.zero, i.size, i.bytes)) = some (some z, size, bytes)) (hzs : z.cells.size = size) (hsz : 0 < size)
    (v : Value) (n : Nat) (xs : List Value) (hs : a.eval s = v) (hown : OwnW w e size v n xs)
    (ad : Addr) (m c : Nat) (news : List Value) (hx : a.eval x = .slice (some ad) m c) (hl : news.length = m * size) (hnews : ∀ j u, news[j]? = some u → w.cell? (ad.add j) = some u) (h1 : ∀ u ∈ news, u.oneCell' = true)
    (h63 : n + m ≤ 9223372036854775807) (hbytes : (n + m) * bytes ≤ 140737488355328)
    (h : ∀ A' c' w', OwnW w' e size (.slice A' (n + m) c') (n + m) (xs ++ news) → Keeps (ownB v) w w' → Grew w v (.slice A' (n + m) c') → K (a.put o.dst (.slice A' (n + m) c')) w') : o.wp P a w K Q := by
  obtain ⟨i0, hi', hz0, hz1, hz2⟩ := info_parts hi
  obtain ⟨v', w', hr, h2, h3, _, h5⟩ := run_append_own_at (P := P) w 0 t o.type e i0 z size bytes ht hi' hz0 hz1 hz2 hzs hsz v n xs hown ad m c news hl hnews h1 (by unfold maxLen; omega) hbytes (Nat.zero_le _)
  obtain ⟨A', c', rfl, _⟩ := OwnW.slice h2
  unfold Oper.wp execOp
  simp only [ho, resolve, invoke, builtin, Sem.run_bind, Sem.run_pure, Result.andThen_ok, List.map_toArray, List.map_cons, List.map_nil, hs, hx, hr]
  refine h A' c' w' h2 (Keeps.of_grown h3 (fun b hb _ => hb)) fun k hk => ?_
  rcases h5 with h5 | h5
  · rw [h5] at hk; exact .inl hk
  · rw [h5] at hk; cases hk; exact .inr (Nat.le_refl _)
theorem step_app_w {K : Act → World → Prop} {E : Prop} (hgd : o.guard = none) (s x : Operand) (t e : TypeId) (z : Value) (size bytes : Nat) (ho : o.op = .call { callee := .builtin .append, args := #[s, x], argTypes := #[t, t] })
    (ht : P.underlying t = some (.slice e)) (hi : (P.info? e).map (fun i => (i.zero, i.size, i.bytes)) = some (some z, size, bytes)) (hzs : z.cells.size = size) (hsz : 0 < size)
    (v : Value) (n : Nat) (xs : List Value) (hs : a.eval s = v) (hown : OwnW w e size v n xs)
    (ad : Addr) (m c : Nat) (news : List Value) (hx : a.eval x = .slice (some ad) m c) (hl : news.length = m * size) (hnews : ∀ j u, news[j]? = some u → w.cell? (ad.add j) = some u) (h1 : ∀ u ∈ news, u.oneCell' = true)
    (h63 : n + m ≤ 9223372036854775807) (hbytes : (n + m) * bytes ≤ 140737488355328)
    (h : ∀ A' c' w', OwnW w' e size (.slice A' (n + m) c') (n + m) (xs ++ news) → Keeps (ownB v) w w' → Grew w v (.slice A' (n + m) c') → K (a.put o.dst (.slice A' (n + m) c')) w') : if Region.wanted o (yielded ops a.tmps) = true then o.wp P a w K Q else E := by
  have hw : Region.wanted o (yielded ops a.tmps) = true := by simp [Region.wanted, hgd]
  rw [if_pos hw]
  exact wp_app_w s x t e z size bytes ho ht hi hzs hsz v n xs hs hown ad m c news hx hl hnews h1 h63 hbytes h
end
theorem infoMove : (Tryz.prog.info? 81).map (fun i => (i.zero, i.size, i.bytes)) = some (some (.agg #[.int .u8 0, .string ⟨#[]⟩, .string ⟨#[]⟩, .int .i64 0]), 4, 48) := by kernel_rfl
theorem infoDone : (Tryz.prog.info? 104).map (fun i => (i.zero, i.size, i.bytes)) = some (some (.agg #[.bool false, .int .i64 0, .string ⟨#[]⟩]), 3, 32) := by kernel_rfl
end Go.Proofs.YtlhhcoijkjcneaaGreat
