/- simfs: slices.Clone of rows of structs. -/
import Derived.Test.YtlhhcoijkjcneaaGreatSimX
namespace Go.Proofs.YtlhhcoijkjcneaaGreat
open Go.RowKit Go.Maps Go.Lib
section
variable {P : Program} {w : World} {ops : Array Oper} {rest : List Oper} {o : Oper} {a : Act} {Q : Exit → Act → World → Prop}
/-- append([]T{}, x...) of structs: a copy. -/
theorem appw_lit0 (hgd : o.guard = none) (s x : Operand) (t e : TypeId) (z : Value) (size bytes : Nat) (ho : o.op = .call { callee := .builtin .append, args := #[s, x], argTypes := #[t, t] })
    (ht : P.underlying t = some (.slice e)) (hi : (P.info? e).map (fun i => (i.zero, i.size, i.bytes)) = some (some z, size, bytes)) (hzs : z.cells.size = size) (hsz : 0 < size)
    (g : Nat) (hg : g = w.heap.size) (hs : a.eval s = .slice (some ⟨g, 0, none⟩) 0 0)
    (ad : Addr) (m c : Nat) (news : List Value) (hx : a.eval x = .slice (some ad) m c) (hl : news.length = m * size) (hnews : ∀ j u, news[j]? = some u → w.cell? (ad.add j) = some u) (h1 : ∀ u ∈ news, u.oneCell' = true)
    (h63 : m ≤ 9223372036854775807) (hbytes : m * bytes ≤ 140737488355328)
    (h : ∀ A' c' w', OwnW w' e size (.slice A' m c') m news → Keeps NoB w w' → Fresh w (.slice A' m c') → wpList P ops Q rest (a.put o.dst (.slice A' m c')) w') : wpList P ops Q (o :: rest) a (w.alloc (.cells #[] e)) := by
  subst hg
  have hown : OwnW (w.alloc (.cells #[] e)) e size (.slice (some ⟨w.heap.size, 0, none⟩) 0 0) 0 [] := ⟨by simp, .inr ⟨w.heap.size, 0, #[], rfl, Nat.zero_le _, heap_alloc_new w _, Nat.le_refl _, Nat.zero_le _, by simp, by simp⟩⟩
  have hka : Keeps NoB w (w.alloc (.cells #[] e)) := (Keeps.refl NoB w).alloc _
  refine wpList_plain hgd fun K hK => ?_
  refine wp_app_w s x t e z size bytes ho ht hi hzs hsz _ 0 [] hs hown ad m c news hx hl (fun j u hj => hka.cell (hnews j u hj) (fun f => f)) h1 (by omega) (by simpa using hbytes) ?_
  intro A' c' w' hO hk hG
  rw [Nat.zero_add] at hO hG ⊢
  rw [List.nil_append] at hO
  exact hK _ _ (h A' c' w' hO (hka.fresh (fresh_lit w _ _) hk) ((fresh_lit w 0 0).grew (w1 := w.alloc (.cells #[] e)) hka.size hG))
end
theorem doneFlat_len (l : List DoneS) : (l.flatMap doneCells).length = l.length * 3 := by
  induction l with
  | nil => rfl
  | cons d l ih => rw [List.flatMap_cons, List.length_append, ih, show (doneCells d).length = 3 from rfl, List.length_cons]; omega
theorem moveFlat_len (l : List MoveS) : (l.flatMap moveCells).length = l.length * 4 := by
  induction l with
  | nil => rfl
  | cons d l ih => rw [List.flatMap_cons, List.length_append, ih, show (moveCells d).length = 4 from rfl, List.length_cons]; omega
theorem doneFlat_one (l : List DoneS) : ∀ u ∈ l.flatMap doneCells, u.oneCell' = true := fun u hu => by
  obtain ⟨t, _, hu⟩ := List.mem_flatMap.1 hu
  simp only [doneCells, List.mem_cons, List.not_mem_nil, or_false] at hu
  rcases hu with rfl | rfl | rfl <;> rfl
theorem moveFlat_one (l : List MoveS) : ∀ u ∈ l.flatMap moveCells, u.oneCell' = true := fun u hu => by
  obtain ⟨t, _, hu⟩ := List.mem_flatMap.1 hu
  simp only [moveCells, List.mem_cons, List.not_mem_nil, or_false] at hu
  rcases hu with rfl | rfl | rfl | rfl <;> rfl
set_option maxRecDepth 100000 in
set_option maxHeartbeats 1000000 in
theorem cloneD_any (w : World) (v : Value) (l : List DoneS) (h : LogV w v l) (hl : l.length ≤ 1000000000) :
    Calls Tryz.prog 39 #[v] w fun e w' => ∃ v', e = .returned v' ∧ LogV w' v' l ∧ Fresh w v' ∧ Keeps NoB w w' := by
  have q := fun (w : World) (a : Option Addr) (n c n' c' : Nat) => Lib.run_eql_slice_nil (P := Tryz.prog) w 89 104 a n c n' c' Tryz.underlying89
  rcases h.2 with ⟨rfl, hn⟩ | ⟨g, cap, cur, rfl, hb, hg, r⟩
  · have hx : l = [] := List.eq_nil_of_length_eq_zero hn
    subst hx
    go_enter Tryz.func39, Tryz.ntmps39
    go_wp2
    go_ret
    exact ⟨_, rfl, logV_nil w, fun k hk => by simp [Value.ownBlock] at hk, Keeps.refl _ _⟩
  · have hc := World.ownsRow.cells h (g := g) rfl
    have HC := Sd.mk hc
    clear h hb hg r hc
    go_enter Tryz.func39, Tryz.ntmps39
    go_wp2_with (at_builtin; go_must (refine appw_lit0 rfl _ _ 89 104 _ 3 32 rfl Tryz.underlying89 infoDone rfl (by decide) _ rfl rfl ⟨g, 0, none⟩ l.length cap (l.flatMap doneCells) rfl (doneFlat_len l) HC.o (doneFlat_one l) (by omega) (by omega) ?_); intro A' c' w' HO HK HF; have HP := Sd.mk (And.intro HO (And.intro HF HK)); clear HO HK HF)
    go_ret
    exact ⟨_, rfl, HP.o.1, HP.o.2.1, HP.o.2.2⟩
set_option maxRecDepth 100000 in
set_option maxHeartbeats 1000000 in
theorem cloneM_any (w : World) (v : Value) (l : List MoveS) (h : MovesV w v l) (hl : l.length ≤ 1000000000) :
    Calls Tryz.prog 40 #[v] w fun e w' => ∃ v', e = .returned v' ∧ MovesV w' v' l ∧ Fresh w v' ∧ Keeps NoB w w' := by
  have q := fun (w : World) (a : Option Addr) (n c n' c' : Nat) => Lib.run_eql_slice_nil (P := Tryz.prog) w 75 81 a n c n' c' Tryz.underlying75
  rcases h.2 with ⟨rfl, hn⟩ | ⟨g, cap, cur, rfl, hb, hg, r⟩
  · have hx : l = [] := List.eq_nil_of_length_eq_zero hn
    subst hx
    go_enter Tryz.func40, Tryz.ntmps40
    go_wp2
    go_ret
    exact ⟨_, rfl, movesV_nil w, fun k hk => by simp [Value.ownBlock] at hk, Keeps.refl _ _⟩
  · have hc := World.ownsRow.cells h (g := g) rfl
    have HC := Sd.mk hc
    clear h hb hg r hc
    go_enter Tryz.func40, Tryz.ntmps40
    go_wp2_with (at_builtin; go_must (refine appw_lit0 rfl _ _ 75 81 _ 4 48 rfl Tryz.underlying75 infoMove rfl (by decide) _ rfl rfl ⟨g, 0, none⟩ l.length cap (l.flatMap moveCells) rfl (moveFlat_len l) HC.o (moveFlat_one l) (by omega) (by omega) ?_); intro A' c' w' HO HK HF; have HP := Sd.mk (And.intro HO (And.intro HF HK)); clear HO HK HF)
    go_ret
    exact ⟨_, rfl, HP.o.1, HP.o.2.1, HP.o.2.2⟩
end Go.Proofs.YtlhhcoijkjcneaaGreat
