/- Rows that grow, and what slices of one-cell values read as. -/
import Derived.Test.YtdjamijbhaplgaaGreatRows
import Derived.Maps.AppendAt
import Derived.Lib.AppendStr
import Derived.Test.YtdjamijbhaplgaaGreatGkab
import Derived.Test.YtdjamijbhaplgaaGreatGkac
namespace Go.Proofs.YtdjamijbhaplgaaGreat
open Go.RowKit Go.Lib

def ownB (v : Value) : Nat → Prop := fun k => v.ownBlock = some k
/-- v' lies where v lay, or in a block that came later. -/
def Grew (w : World) (v v' : Value) : Prop := ∀ k, v'.ownBlock = some k → v.ownBlock = some k ∨ w.heap.size ≤ k
theorem Grew.refl (w : World) (v : Value) : Grew w v v := fun _ h => .inl h
theorem Grew.trans {w w' : World} {a b c : Value} (h : Grew w a b) (k : Grew w' b c) (hs : w.heap.size ≤ w'.heap.size) : Grew w a c := fun i hi => by
  rcases k i hi with h1 | h1
  · exact h i h1
  · exact .inr (Nat.le_trans hs h1)

/-- The values lie from A on. -/
def VRd (w : World) (A : Option Addr) (vs : List Value) : Prop :=
  ∀ i (h : i < vs.length), ∃ b o, A = some ⟨b, o, none⟩ ∧ w.cell? ⟨b, o + i, none⟩ = some vs[i]
theorem VRd.below {w w' : World} {A : Option Addr} {vs : List Value} (h : VRd w A vs) (k : Below w.heap.size w w') : VRd w' A vs := fun i hi => by
  obtain ⟨b, o, e, hc⟩ := h i hi
  exact ⟨b, o, e, by rw [k.cell (World.block_lt_of_cell? w _ hc)]; exact hc⟩
theorem VRd.keeps {F : Nat → Prop} {w w' : World} {A : Option Addr} {vs : List Value} (h : VRd w A vs) (k : Keeps F w w') (hF : ∀ b o s, A = some ⟨b, o, s⟩ → ¬ F b) : VRd w' A vs := fun i hi => by
  obtain ⟨b, o, e, hc⟩ := h i hi
  exact ⟨b, o, e, k.cell hc (hF _ _ _ e)⟩
theorem VRd.news {w : World} {b o : Nat} {vs : List Value} (h : VRd w (some ⟨b, o, none⟩) vs) : ∀ j u, vs[j]? = some u → w.cell? ((⟨b, o, none⟩ : Addr).add j) = some u := by
  intro j u hj
  rw [add_lit]
  obtain ⟨hl, rfl⟩ := List.getElem?_eq_some_iff.1 hj
  obtain ⟨b', o', e, hc⟩ := h j hl
  cases e
  exact hc
theorem rd_vrd {w : World} {A : Option Addr} {xs : List UInt8} (h : Rd w A xs) : VRd w A (bvs xs) := fun i hi => by
  have hi' : i < xs.length := by simpa [bvs] using hi
  obtain ⟨b, o, e, hc⟩ := h i hi'
  exact ⟨b, o, e, by rw [hc]; simp [bvs, u8v]⟩

/-- An owned row of one-cell values of type e. -/
def OwnV (w : World) (e : TypeId) (v : Value) (vs : List Value) : Prop := w.ownsRow 0 e 1 v vs.length vs
theorem OwnV.keeps {F : Nat → Prop} {w w' : World} {e : TypeId} {v : Value} {vs : List Value} (h : OwnV w e v vs) (k : Keeps F w w') (hF : Off F v) : OwnV w' e v vs := by
  obtain ⟨h1, h2⟩ := h
  refine ⟨h1, ?_⟩
  rcases h2 with h2 | ⟨g, cap, cur, rfl, hb, hg, r⟩
  · exact .inl h2
  · exact .inr ⟨g, cap, cur, rfl, hb, k.obj hg (hF g rfl), r⟩
theorem OwnV.lt {w : World} {e : TypeId} {v : Value} {vs : List Value} (h : OwnV w e v vs) : ∀ k, v.ownBlock = some k → k < w.heap.size := fun k hk => (World.ownsRow.lt h k hk).2
theorem OwnV.slice {w : World} {e : TypeId} {v : Value} {vs : List Value} (h : OwnV w e v vs) : ∃ A c, v = .slice A vs.length c := by
  rcases h.2 with ⟨rfl, hn⟩ | ⟨g, cap, cur, rfl, _⟩
  · exact ⟨none, 0, by rw [hn]⟩
  · exact ⟨_, _, rfl⟩
theorem OwnV.vrd {w : World} {e : TypeId} {A : Option Addr} {n c : Nat} {vs : List Value} (h : OwnV w e (.slice A n c) vs) : n = vs.length ∧ n ≤ c ∧ c ≤ maxLen ∧ (A = none → c = 0) ∧ (∀ a, A = some a → a.spot = none ∧ a.block < w.heap.size) ∧ VRd w A vs := by
  obtain ⟨h1, h2⟩ := h
  rcases h2 with ⟨e0, hn⟩ | ⟨g, cap, cur, e0, hb, hg, hn, hc, hs, ht⟩
  · cases e0
    have : vs = [] := List.eq_nil_of_length_eq_zero hn
    subst this
    exact ⟨rfl, Nat.le_refl _, Nat.zero_le _, fun _ => rfl, (fun a ha => by cases ha), (fun i hi => by simp at hi)⟩
  · cases e0
    refine ⟨rfl, hn, hc, (fun e => by cases e), (fun a ha => by cases ha; exact ⟨rfl, (Array.getElem?_eq_some_iff.1 hg).1⟩), fun i hi => ⟨g, 0, rfl, ?_⟩⟩
    rw [cell_of_row w g (0 + i) cur _ (0, 0) hg]
    have h3 : vs[i]? = some vs[i] := by simp [hi]
    have h4 : (cur.toList.take (vs.length * 1))[i]? = some vs[i] := by rw [ht]; exact h3
    rw [List.getElem?_take] at h4
    split at h4
    · simpa using h4
    · cases h4
theorem Own.v {w : World} {base : Nat} {v : Value} {xs : List UInt8} (h : Own w base v xs) : OwnV w 5 v (bvs xs) := by
  unfold OwnV
  rw [bvs_length]
  exact Own.less h (Nat.zero_le _)
theorem OwnV.own {w : World} {v : Value} {xs : List UInt8} (h : OwnV w 5 v (bvs xs)) : Own w 0 v xs := by
  unfold OwnV at h
  rw [bvs_length] at h
  exact h

theorem Keeps.grow {w w1 w2 : World} {v v1 : Value} (h : Keeps (ownB v) w w1) (g : Grew w v v1) (k : Keeps (ownB v1) w1 w2) : Keeps (ownB v) w w2 :=
  h.trans k (fun _ _ f => f) (fun i hi f => by
    rcases g i f with h1 | h1
    · exact h1
    · omega)
theorem Grew.grow {w w1 : World} {v v1 v2 : Value} {F : Nat → Prop} (g : Grew w v v1) (h : Keeps F w w1) (g2 : Grew w1 v1 v2) : Grew w v v2 := g.trans g2 h.size
theorem new_one {w : World} {u : Value} {e : TypeId} {j : Nat} {x : Value} (h : [u][j]? = some x) : (w.alloc (.cells #[u] e)).cell? ((⟨w.heap.size, 0, none⟩ : Addr).add j) = some x := by
  cases j with
  | zero =>
    simp at h
    subst h
    rw [add_lit, blk_cell (heap_alloc_new w _)]
    rfl
  | succ j => simp at h
theorem one1 {k : IntKind} {n : Int} : ∀ u ∈ [Value.int k n], u.oneCell' = true := by intro u hu; simp at hu; subst hu; rfl
theorem Keeps.undoalloc {w w' : World} {o : Obj} {F : Nat → Prop} (h : Keeps F (w.alloc o) w') : Keeps F w w' :=
  ((Keeps.refl F w).alloc o).trans h (fun _ _ f => f) (fun _ _ f => f)
theorem Grew.undoalloc {w : World} {o : Obj} {v v' : Value} (h : Grew (w.alloc o) v v') : Grew w v v' := fun k hk => (h k hk).imp id (fun h => by simp at h; omega)
/-- It lies in no block of w. -/
def Fresh (w : World) (v : Value) : Prop := ∀ k, v.ownBlock = some k → w.heap.size ≤ k
theorem Fresh.grew {w w1 : World} {v v' : Value} (h : Fresh w v) (hs : w.heap.size ≤ w1.heap.size) (g : Grew w1 v v') : Fresh w v' := fun k hk => by
  rcases g k hk with h1 | h1
  · exact h k h1
  · exact Nat.le_trans hs h1
theorem Keeps.fresh {w w1 w2 : World} {v : Value} {F : Nat → Prop} (h : Keeps F w w1) (f : Fresh w v) (k : Keeps (ownB v) w1 w2) : Keeps F w w2 :=
  h.trans k (fun _ _ f => f) (fun i hi g => absurd (f i g) (by omega))
theorem Keeps.then {w w1 w2 : World} {F : Nat → Prop} (h : Keeps F w w1) (k : Keeps NoB w1 w2) : Keeps F w w2 := h.trans k (fun _ _ f => f) (fun _ _ f => f.elim)
theorem own_lit (w : World) (e : TypeId) (vs : List Value) (hn : vs.length ≤ 9223372036854775807) : OwnV (w.alloc (.cells vs.toArray e)) e (.slice (some ⟨w.heap.size, 0, none⟩) vs.length vs.length) vs :=
  ⟨by simp, .inr ⟨w.heap.size, vs.length, vs.toArray, rfl, Nat.zero_le _, heap_alloc_new w _, Nat.le_refl _, by unfold maxLen; exact hn, by simp, by simp⟩⟩
theorem fresh_lit (w : World) (n c : Nat) : Fresh w (.slice (some ⟨w.heap.size, 0, none⟩) n c) := fun k hk => by simp [Value.ownBlock] at hk; omega
section
variable {P : Program} {w : World} {ops : Array Oper} {rest : List Oper} {o : Oper} {a : Act} {Q : Exit → Act → World → Prop}
/-- append of one-cell values onto an owned row. -/
theorem app_row (hgd : o.guard = none) (s x : Operand) (t e : TypeId) (z : Value) (bytes : Nat) (ho : o.op = .call { callee := .builtin .append, args := #[s, x], argTypes := #[t, t] })
    (ht : P.underlying t = some (.slice e)) (hi : (P.info? e).map (fun i => (i.zero, i.size, i.bytes)) = some (some z, 1, bytes)) (hzs : z.cells.size = 1)
    (v : Value) (vs : List Value) (hs : a.eval s = v) (hown : OwnV w e v vs)
    (ad : Addr) (m c : Nat) (news : List Value) (hx : a.eval x = .slice (some ad) m c) (hl : news.length = m) (hnews : ∀ j u, news[j]? = some u → w.cell? (ad.add j) = some u) (h1 : ∀ u ∈ news, u.oneCell' = true)
    (h63 : vs.length + m ≤ 9223372036854775807) (hbytes : (vs.length + m) * bytes ≤ 140737488355328)
    (h : ∀ A' c' w', OwnV w' e (.slice A' (vs.length + m) c') (vs ++ news) → Keeps (ownB v) w w' → Grew w v (.slice A' (vs.length + m) c') → wpList P ops Q rest (a.put o.dst (.slice A' (vs.length + m) c')) w') : wpList P ops Q (o :: rest) a w := by
  obtain ⟨i0, hi', hz0, hz1, hz2⟩ := info_parts hi
  refine wpList_plain hgd fun K hK => ?_
  obtain ⟨v', w', hr, h2, h3, _, h5⟩ := run_append_own_at (P := P) w 0 t o.type e i0 z 1 bytes ht hi' hz0 hz1 hz2 hzs (by decide) v vs.length vs hown ad m c news (by omega) hnews h1 (by unfold maxLen; omega) hbytes (Nat.zero_le _)
  unfold Oper.wp execOp
  simp only [ho, resolve, invoke, builtin, Sem.run_bind, Sem.run_pure, Result.andThen_ok, List.map_toArray, List.map_cons, List.map_nil, hs, hx, hr]
  have e1 : (vs ++ news).length = vs.length + m := by simp; omega
  have h2' : OwnV w' e v' (vs ++ news) := by unfold OwnV; rw [e1]; exact h2
  obtain ⟨A', c', rfl⟩ := h2'.slice
  rw [e1] at h2' h5 ⊢
  refine hK _ _ (h A' c' w' h2' (Keeps.of_grown h3 (fun b hb _ => hb)) ?_)
  intro k hk
  rcases h5 with h5 | h5
  · rw [h5] at hk; exact .inl hk
  · rw [h5] at hk; cases hk; exact .inr (Nat.le_refl _)

theorem run_append_none {P : Program} (w : World) (t ty e : TypeId) (i : TypeInfo) (ht : P.underlying t = some (.slice e)) (hi : P.info? e = some i) (A : Option Addr) (n cap c : Nat) (hn : n ≤ cap) :
    (Builtin.append_ #[t, t] ty #[.slice A n cap, .slice none 0 c]).run P w = .ok (.slice A n cap) w := by
  cases A with
  | none => simp [Builtin.append_, run_underlying ht, sizeOf, typeInfo, hi, Builtin.lenOf, Builtin.firstCells, hn]
  | some a => simp [Builtin.append_, run_underlying ht, sizeOf, typeInfo, hi, Builtin.lenOf, Builtin.firstCells, hn, storeCells]
/-- append of what a slice reads as, nil let in. -/
theorem app_any (hgd : o.guard = none) (s x : Operand) (t e : TypeId) (z : Value) (bytes : Nat) (ho : o.op = .call { callee := .builtin .append, args := #[s, x], argTypes := #[t, t] })
    (ht : P.underlying t = some (.slice e)) (hi : (P.info? e).map (fun i => (i.zero, i.size, i.bytes)) = some (some z, 1, bytes)) (hzs : z.cells.size = 1)
    (v : Value) (vs : List Value) (hs : a.eval s = v) (hown : OwnV w e v vs)
    (B : Option Addr) (m c : Nat) (news : List Value) (hx : a.eval x = .slice B m c) (hl : news.length = m) (hnews : VRd w B news) (h1 : ∀ u ∈ news, u.oneCell' = true)
    (h63 : vs.length + m ≤ 9223372036854775807) (hbytes : (vs.length + m) * bytes ≤ 140737488355328)
    (h : ∀ A' c' w', OwnV w' e (.slice A' (vs.length + m) c') (vs ++ news) → Keeps (ownB v) w w' → Grew w v (.slice A' (vs.length + m) c') → wpList P ops Q rest (a.put o.dst (.slice A' (vs.length + m) c')) w') : wpList P ops Q (o :: rest) a w := by
  cases B with
  | some ad =>
    have hn : ∀ j u, news[j]? = some u → w.cell? (ad.add j) = some u := by
      cases news with
      | nil => intro j u hj; simp at hj
      | cons x l =>
        obtain ⟨b, o, e, _⟩ := hnews 0 (by simp)
        cases e
        exact hnews.news
    exact app_row hgd s x t e z bytes ho ht hi hzs v vs hs hown ad m c news hx hl hn h1 h63 hbytes h
  | none =>
    have hm : news = [] := by
      cases news with
      | nil => rfl
      | cons u l => obtain ⟨b, o, e, _⟩ := hnews 0 (by simp); cases e
    subst hm
    subst hl
    obtain ⟨i0, hi', hz0, hz1, hz2⟩ := info_parts hi
    refine wpList_plain hgd fun K hK => ?_
    obtain ⟨A, cc, rfl⟩ := hown.slice
    have hr := run_append_none (P := P) w t o.type e i0 ht hi' A vs.length cc c hown.vrd.2.1
    unfold Oper.wp execOp
    simp only [List.length_nil] at hx
    simp only [ho, resolve, invoke, builtin, Sem.run_bind, Sem.run_pure, Result.andThen_ok, List.map_toArray, List.map_cons, List.map_nil, hs, hx, hr]
    exact hK _ _ (h A cc w (by simpa using hown) (Keeps.refl _ _) (Grew.refl _ _))
theorem wp_app_any {K : Act → World → Prop} (s x : Operand) (t e : TypeId) (z : Value) (bytes : Nat) (ho : o.op = .call { callee := .builtin .append, args := #[s, x], argTypes := #[t, t] })
    (ht : P.underlying t = some (.slice e)) (hi : (P.info? e).map (fun i => (i.zero, i.size, i.bytes)) = some (some z, 1, bytes)) (hzs : z.cells.size = 1)
    (v : Value) (vs : List Value) (hs : a.eval s = v) (hown : OwnV w e v vs)
    (B : Option Addr) (m c : Nat) (news : List Value) (hx : a.eval x = .slice B m c) (hl : news.length = m) (hnews : VRd w B news) (h1 : ∀ u ∈ news, u.oneCell' = true)
    (h63 : vs.length + m ≤ 9223372036854775807) (hbytes : (vs.length + m) * bytes ≤ 140737488355328)
    (h : ∀ A' c' w', OwnV w' e (.slice A' (vs.length + m) c') (vs ++ news) → Keeps (ownB v) w w' → Grew w v (.slice A' (vs.length + m) c') → K (a.put o.dst (.slice A' (vs.length + m) c')) w') : o.wp P a w K Q := by
  obtain ⟨i0, hi', hz0, hz1, hz2⟩ := info_parts hi
  have hrun : ∃ A' c' w', (Builtin.append_ #[t, t] o.type #[v, .slice B m c]).run P w = .ok (.slice A' (vs.length + m) c') w' ∧ OwnV w' e (.slice A' (vs.length + m) c') (vs ++ news) ∧ Keeps (ownB v) w w' ∧ Grew w v (.slice A' (vs.length + m) c') := by
    cases B with
    | some ad =>
      have hn : ∀ j u, news[j]? = some u → w.cell? (ad.add j) = some u := by
        cases news with
        | nil => intro j u hj; simp at hj
        | cons x l =>
          obtain ⟨b, o, e, _⟩ := hnews 0 (by simp)
          cases e
          exact hnews.news
      obtain ⟨v', w', hr, h2, h3, _, h5⟩ := run_append_own_at (P := P) w 0 t o.type e i0 z 1 bytes ht hi' hz0 hz1 hz2 hzs (by decide) v vs.length vs hown ad m c news (by omega) hn h1 (by unfold maxLen; omega) hbytes (Nat.zero_le _)
      have e1 : (vs ++ news).length = vs.length + m := by simp; omega
      have h2' : OwnV w' e v' (vs ++ news) := by unfold OwnV; rw [e1]; exact h2
      obtain ⟨A', c', rfl⟩ := h2'.slice
      rw [e1] at h2' h5 hr
      refine ⟨A', c', w', hr, h2', Keeps.of_grown h3 (fun b hb _ => hb), fun k hk => ?_⟩
      rcases h5 with h5 | h5
      · rw [h5] at hk; exact .inl hk
      · rw [h5] at hk; cases hk; exact .inr (Nat.le_refl _)
    | none =>
      have hm : news = [] := by
        cases news with
        | nil => rfl
        | cons u l => obtain ⟨b, o, e, _⟩ := hnews 0 (by simp); cases e
      subst hm
      subst hl
      obtain ⟨A, cc, rfl⟩ := hown.slice
      exact ⟨A, cc, w, run_append_none (P := P) w t o.type e i0 ht hi' A vs.length cc c hown.vrd.2.1, by simpa using hown, Keeps.refl _ _, Grew.refl _ _⟩
  obtain ⟨A', c', w', hr, h2, h3, h4⟩ := hrun
  unfold Oper.wp execOp
  simp only [ho, resolve, invoke, builtin, Sem.run_bind, Sem.run_pure, Result.andThen_ok, List.map_toArray, List.map_cons, List.map_nil, hs, hx, hr]
  exact h A' c' w' h2 h3 h4
theorem step_app_any {K : Act → World → Prop} {E : Prop} (hgd : o.guard = none) (s x : Operand) (t e : TypeId) (z : Value) (bytes : Nat) (ho : o.op = .call { callee := .builtin .append, args := #[s, x], argTypes := #[t, t] })
    (ht : P.underlying t = some (.slice e)) (hi : (P.info? e).map (fun i => (i.zero, i.size, i.bytes)) = some (some z, 1, bytes)) (hzs : z.cells.size = 1)
    (v : Value) (vs : List Value) (hs : a.eval s = v) (hown : OwnV w e v vs)
    (B : Option Addr) (m c : Nat) (news : List Value) (hx : a.eval x = .slice B m c) (hl : news.length = m) (hnews : VRd w B news) (h1 : ∀ u ∈ news, u.oneCell' = true)
    (h63 : vs.length + m ≤ 9223372036854775807) (hbytes : (vs.length + m) * bytes ≤ 140737488355328)
    (h : ∀ A' c' w', OwnV w' e (.slice A' (vs.length + m) c') (vs ++ news) → Keeps (ownB v) w w' → Grew w v (.slice A' (vs.length + m) c') → K (a.put o.dst (.slice A' (vs.length + m) c')) w') : if Region.wanted o (yielded ops a.tmps) = true then o.wp P a w K Q else E := by
  have hw : Region.wanted o (yielded ops a.tmps) = true := by simp [Region.wanted, hgd]
  rw [if_pos hw]
  exact wp_app_any s x t e z bytes ho ht hi hzs v vs hs hown B m c news hx hl hnews h1 h63 hbytes h
theorem strCells_bvs (s : ByteArray) : strCells s = bvs s.data.toList := rfl
/-- append of a text onto an owned row of bytes. -/
theorem app_str (hgd : o.guard = none) (sl x : Operand) (t u e : TypeId) (ho : o.op = .call { callee := .builtin .append, args := #[sl, x], argTypes := #[t, u] })
    (ht : P.underlying t = some (.slice e)) (hu : P.underlying u = some .string) (hi : (P.info? e).map (fun i => (i.zero, i.size, i.bytes)) = some (some (.int .u8 0), 1, 1))
    (v : Value) (vs : List Value) (hs : a.eval sl = v) (hown : OwnV w e v vs) (s : ByteArray) (hx : a.eval x = .string s)
    (hb : vs.length + s.size ≤ 140737488355328)
    (h : ∀ A' c' w', OwnV w' e (.slice A' (vs.length + s.size) c') (vs ++ bvs s.data.toList) → Keeps (ownB v) w w' → Grew w v (.slice A' (vs.length + s.size) c') → wpList P ops Q rest (a.put o.dst (.slice A' (vs.length + s.size) c')) w') : wpList P ops Q (o :: rest) a w := by
  obtain ⟨i0, hi', hz0, hz1, hz2⟩ := info_parts hi
  refine wpList_plain hgd fun K hK => ?_
  have hsz : (bvs s.data.toList).length = s.size := by rw [bvs_length]; exact Array.length_toList
  obtain ⟨v', w', hr, h2, h3, h4⟩ := run_append_own_string (P := P) w 0 t u o.type e i0 ht hu hi' hz0 hz1 hz2 v vs.length vs hown s (by unfold maxLen; omega) hb (Nat.zero_le _)
  have h5 : v'.ownBlock = v.ownBlock ∨ v'.ownBlock = some w.heap.size := by
    rcases hown.2 with ⟨rfl, hn⟩ | ⟨g, cap, cur, rfl, hbg, hg, hnc, hcm, hcs, htake⟩
    · by_cases hm : s.size = 0
      · have := h4.2 ⟨rfl, hm⟩
        rw [this]; exact .inl rfl
      · have hr2 := run_append_nil_string (P := P) w t u o.type e i0 (.int .u8 0) ht hu hi' hz0 s (by omega) (by omega) (by rw [hz2]; omega)
        rw [hr] at hr2
        injection hr2 with hv _
        rw [hv]; exact .inr rfl
    · by_cases hroom : vs.length + s.size ≤ cap
      · have hcs' : cur.size = cap := by simpa using hcs
        have hr2 := run_append_room_string (P := P) w t u o.type e i0 ht hu hi' hz1 g vs.length cap cur hg s hroom (by omega)
        rw [hr] at hr2
        injection hr2 with hv _
        rw [hv]; exact .inl rfl
      · have holds : ∀ j u, vs[j]? = some u → w.cell? ((⟨g, 0, none⟩ : Addr).add j) = some u := World.ownsRow.cells hown (g := g) rfl
        have hr2 := run_append_grow_string (P := P) w t u o.type e i0 (.int .u8 0) ht hu hi' hz0 ⟨g, 0, none⟩ vs.length cap vs (by rw [hz1]; simp) holds s (by omega) (by omega) (by rw [hz2]; exact growslice_fits (by omega) (by omega))
        rw [hr] at hr2
        injection hr2 with hv _
        rw [hv]; exact .inr rfl
  unfold Oper.wp execOp
  simp only [ho, resolve, invoke, builtin, Sem.run_bind, Sem.run_pure, Result.andThen_ok, List.map_toArray, List.map_cons, List.map_nil, hs, hx, hr]
  have e1 : (vs ++ bvs s.data.toList).length = vs.length + s.size := by rw [List.length_append, hsz]
  have h2' : OwnV w' e v' (vs ++ bvs s.data.toList) := by unfold OwnV; rw [e1]; exact h2
  obtain ⟨A', c', rfl⟩ := h2'.slice
  rw [e1] at h2' h5 ⊢
  refine hK _ _ (h A' c' w' h2' (Keeps.of_grown h3 (fun b hb _ => hb)) ?_)
  intro k hk
  rcases h5 with h5 | h5
  · rw [h5] at hk; exact .inl hk
  · rw [h5] at hk; cases hk; exact .inr (Nat.le_refl _)
end
theorem infoU8' : (Tryz.prog.info? 5).map (fun i => (i.zero, i.size, i.bytes)) = some (some (.int .u8 0), 1, 1) := by kernel_rfl
def strs (l : List (List UInt8)) : List Value := l.map fun s => Value.string (sOf s)
theorem strs_len (l : List (List UInt8)) : (strs l).length = l.length := by simp [strs]
end Go.Proofs.YtdjamijbhaplgaaGreat
namespace Go.Proofs.YtdjamijbhaplgaaGreat
open Go.RowKit

def u64s (ns : List Nat) : List Value := ns.map fun (n : Nat) => Value.int .u64 (n : Int)
theorem u64s_len (ns : List Nat) : (u64s ns).length = ns.length := by simp [u64s]
theorem UInt8.v1 (x : UInt8) : bvs [x] = [Value.int .u8 (x.toNat : Int)] := rfl

set_option maxHeartbeats 4000000 in
set_option maxRecDepth 100000 in
theorem put_any (w : World) (A : Option Addr) (c : Nat) (xs : List UInt8) (hown : OwnV w 5 (.slice A xs.length c) (bvs xs)) (ns : List Nat) (hns : ∀ n ∈ ns, n < 18446744073709551616) (A1 : Option Addr) (c1 : Nat)
    (hr : VRd w A1 (u64s ns)) (hoff : 0 < ns.length → ∀ b o s, A1 = some ⟨b, o, s⟩ → ¬ ownB (.slice A xs.length c) b) (hsz : xs.length + 10 * ns.length ≤ 140737488355328) :
    Calls Tryz.prog 115 #[.slice A xs.length c, .slice A1 ns.length c1] w fun e w' => ∃ A' c', e = .returned (.slice A' (xs ++ putL ns).length c') ∧ OwnV w' 5 (.slice A' (xs ++ putL ns).length c') (bvs (xs ++ putL ns)) ∧ Keeps (ownB (.slice A xs.length c)) w w' ∧ Grew w (.slice A xs.length c) (.slice A' (xs ++ putL ns).length c') := by
  have HO := Sd.mk hown
  have HR := Sd.mk hr
  have HF := Sd.mk hoff
  have HN := Sd.mk hns
  obtain ⟨V, hV⟩ : ∃ V, V = Value.slice A xs.length c := ⟨_, rfl⟩
  have HV := Sd.mk hV
  clear hown hr hoff hns
  have hns : ns.length ≤ 140737488355328 := by omega
  go_enter Tryz.func115, Tryz.ntmps115
  go_wp2_with fail
  go_loopg [0, 9] ns.length (fun gk v i wr => ∃ (k : Nat) (ys : List UInt8) (A' : Option Addr) (c' : Nat), gk + k = ns.length ∧ i = .int .i64 k ∧ v = .slice A' ys.length c' ∧ Sd (ys = xs ++ putL (ns.take k)) ∧ ys.length ≤ xs.length + 10 * k ∧ Sd (OwnV wr 5 (.slice A' ys.length c') (bvs ys)) ∧ Sd (Keeps (ownB V) w wr) ∧ Sd (Grew w V (.slice A' ys.length c')))
  case atStart => exact ⟨0, xs, A, c, rfl, rfl, rfl, ⟨by simp [putL]⟩, by omega, HO, ⟨Keeps.refl _ _⟩, ⟨by rw [hV]; exact Grew.refl _ _⟩⟩
  case round =>
    clear HO hV
    obtain ⟨k, ys, A', c', hk, rfl, rfl, hys, hyl, HO, HK, HG⟩ := hrel
    obtain ⟨gk1, hgk1⟩ : ∃ g, g = gk := ⟨_, rfl⟩
    subst hgk1
    by_cases hlt : k < ns.length
    · have hq : (k : Int) < (ns.length : Int) := by omega
      obtain ⟨b1, o1, rfl, hc⟩ := HR.o k (by rw [u64s_len]; exact hlt)
      have hc2 : wr.cell? ⟨b1, o1 + k, none⟩ = some (.int .u64 (ns[k] : Nat)) := by
        have := HK.o.cell hc (by rw [HV.o]; exact HF.o (by omega) _ _ _ rfl)
        rw [this]; simp [u64s]
      have hn : Sd (ns[k] < 18446744073709551616) := ⟨HN.o _ (List.getElem_mem hlt)⟩
      have htk : Sd (ns.take (k + 1) = ns.take k ++ [ns[k]]) := ⟨by rw [List.take_succ_eq_append_getElem hlt]⟩
      clear hc
      generalize ns[k] = n0 at *
      have hp0 := put1_len10 n0 hn.o
      go_wp2_with fail
      go_loopg [0, 6] 10 (fun gk2 v n wr2 => ∃ (m : Nat) (zs : List UInt8) (A2 : Option Addr) (c2 : Nat), n = .int .u64 m ∧ v = .slice A2 zs.length c2 ∧ Sd (m < 128 ^ gk2) ∧ Sd (ys ++ put1 n0 = zs ++ put1 m) ∧ Sd (m < 18446744073709551616) ∧ Sd (OwnV wr2 5 (.slice A2 zs.length c2) (bvs zs)) ∧ Sd (Keeps (ownB V) w wr2) ∧ Sd (Grew w V (.slice A2 zs.length c2)))
      case atStart => exact ⟨n0, ys, A', c', rfl, rfl, ⟨by have := hn.o; omega⟩, ⟨rfl⟩, hn, HO, HK, HG⟩
      case round =>
        clear HO HK HG hc2
        obtain ⟨m, zs, A2, c2, rfl, rfl, hm, hzs, hm64, HO, HK, HG⟩ := hrel
        have hzl := put1_sum hzs.o hn.o
        by_cases h128 : m < 128
        · have hq2 : ¬ (128 : Int) ≤ (m : Int) := by omega
          go_wp2_with (at_builtin; refine app_row rfl _ _ 49 5 (.int .u8 0) 1 rfl Tryz.underlying49 infoU8' rfl (.slice A2 zs.length c2) (bvs zs) rfl (HO.o.keeps ((Keeps.refl NoB _).alloc _) (fun _ _ f => f)) ⟨_, 0, none⟩ 1 1 [.int .u8 (m : Int)] rfl rfl (fun _ _ hj => new_one hj) one1 (by rw [bvs_length]; omega) (by rw [bvs_length]; omega) ?_)
          intro A3 c3 w3 HO3 HK3 HG3
          have HO3' := Sd.mk HO3
          have HK3' := Sd.mk HK3
          have HG3' := Sd.mk HG3
          clear HO3 HK3 HG3
          go_wp2
          go_roundg (gk1 - 1)
          case measure => omega
          case rel =>
            obtain ⟨zs', hzs'⟩ : ∃ zs', zs' = zs ++ [UInt8.ofNat m] := ⟨_, rfl⟩
            have hbv : bvs zs ++ [Value.int .u8 (m : Int)] = bvs zs' := by rw [hzs', bvs_append, UInt8.v1]; simp; omega
            have hl : (bvs zs).length + 1 = zs'.length := by rw [hzs', bvs_length]; simp
            rw [hbv, hl] at HO3'
            rw [hl] at HG3'
            rw [hl]
            have hl2 : zs'.length = zs.length + 1 := by rw [hzs']; simp
            exact ⟨k + 1, zs', A3, c3, by omega, by go_num, rfl, ⟨by rw [htk.o, putL_snoc, hzs', ← List.append_assoc, ← hys.o, hzs.o, put1_lt m h128]⟩, by omega, HO3', ⟨HK.o.grow HG.o ((Keeps.undoalloc HK3'.o))⟩, ⟨HG.o.grow HK.o (HG3'.o.undoalloc)⟩⟩
        · have hq2 : (128 : Int) ≤ (m : Int) := by omega
          go_wp2_with (at_builtin; go_must (refine app_row rfl _ _ 49 5 (.int .u8 0) 1 rfl Tryz.underlying49 infoU8' rfl (.slice A2 zs.length c2) (bvs zs) rfl (HO.o.keeps ((Keeps.refl NoB _).alloc _) (fun _ _ f => f)) ⟨_, 0, none⟩ 1 1 [.int .u8 (bits .or .u8 ((m : Int) % 256) 128)] rfl rfl (fun _ _ hj => new_one hj) one1 (by rw [bvs_length]; omega) (by rw [bvs_length]; omega) ?_))
          intro A3 c3 w3 HO3 HK3 HG3
          have HO3' := Sd.mk HO3
          have HK3' := Sd.mk HK3
          have HG3' := Sd.mk HG3
          clear HO3 HK3 HG3
          go_wp2
          go_roundg (gk - 1)
          case measure =>
            cases gk with
            | zero => have := hm.o; simp at this; omega
            | succ g => omega
          case rel =>
            obtain ⟨zs', hzs'⟩ : ∃ zs', zs' = zs ++ [UInt8.ofNat (m % 128 + 128)] := ⟨_, rfl⟩
            have hbv : bvs zs ++ [Value.int .u8 (bits .or .u8 ((m : Int) % 256) 128)] = bvs zs' := by rw [hzs', bvs_append, UInt8.v1, or128]
            have hl : (bvs zs).length + 1 = zs'.length := by rw [hzs', bvs_length]; simp
            rw [hbv, hl] at HO3'
            rw [hl] at HG3'
            rw [hl]
            refine ⟨m / 128, zs', A3, c3, by go_num, rfl, ⟨?_⟩, ⟨by rw [hzs', hzs.o, put1_ge m h128]; simp⟩, ⟨by have := hm64.o; omega⟩, HO3', ⟨HK.o.grow HG.o ((Keeps.undoalloc HK3'.o))⟩, ⟨HG.o.grow HK.o (HG3'.o.undoalloc)⟩⟩
            cases gk with
            | zero => have := hm.o; simp at this; omega
            | succ g =>
              have := hm.o
              rw [Nat.pow_succ] at this
              show m / 128 < 128 ^ g
              omega
    · have he : k = ns.length := by omega
      have hq : ¬ (k : Int) < (ns.length : Int) := by omega
      have hfin : Sd (ys = xs ++ putL ns) := ⟨by rw [hys.o, he, List.take_length]⟩
      clear he
      go_wp2
      go_ret
      have hl : ys.length = xs.length + (putL ns).length := by rw [hfin.o]; simp
      rw [← hl, ← hfin.o]
      exact ⟨A', c', rfl, HO.o, by rw [← HV.o]; exact HK.o, by rw [← HV.o]; exact HG.o⟩
end Go.Proofs.YtdjamijbhaplgaaGreat
