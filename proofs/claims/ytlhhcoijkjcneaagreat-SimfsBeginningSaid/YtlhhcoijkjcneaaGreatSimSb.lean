/- SimfsSwitch: its walk. -/
import Derived.Test.YtlhhcoijkjcneaaGreatSimSa
import Derived.Test.YtlhhcoijkjcneaaGreatSimZ
import Derived.Test.YtlhhcoijkjcneaaGreatSimAr
import Derived.Test.YtlhhcoijkjcneaaGreatGh
namespace Go.Proofs.YtlhhcoijkjcneaaGreat
open Go.RowKit Go.Maps Go.Lib

theorem tornFlat {l : List TornS} {j : Nat} (hj : j < l.length) (i : Nat) (hi : i < 3) : (l.flatMap tornCells)[j * 3 + i]? = (tornCells l[j])[i]? := by
  induction l generalizing j with
  | nil => simp at hj
  | cons d l ih =>
    rw [List.flatMap_cons]
    have hl : (tornCells d).length = 3 := rfl
    cases j with
    | zero => rw [List.getElem?_append_left (by omega)]; simp
    | succ j =>
      simp only [List.length_cons] at hj
      rw [List.getElem?_append_right (by omega), show (j + 1) * 3 + i - (tornCells d).length = j * 3 + i by omega]
      simpa using ih (by omega)
theorem tornFlat_len (l : List TornS) : (l.flatMap tornCells).length = l.length * 3 := by
  induction l with
  | nil => rfl
  | cons d l ih => rw [List.flatMap_cons, List.length_append, ih, show (tornCells d).length = 3 from rfl, List.length_cons]; omega
theorem infoTorn : (Tryz.prog.info? 54).map (fun i => (i.zero, i.size, i.bytes)) = some (some (.agg #[.int .i64 0, .int .i64 0, .int .i64 0]), 3, 24) := by kernel_rfl
/-- append([]api.Torn{}, l...): a copy. -/
theorem torn_copy (w : World) (A : Option Addr) (c : Nat) (l : List TornS) (hT : TRd w A l) (hn : l.length ≤ 4000000) :
    ∃ w' A' c', (Builtin.append_ #[23, 23] 23 #[.slice (some ⟨w.heap.size, 0, none⟩) 0 0, .slice A l.length c]).run Tryz.prog (w.alloc (.cells #[] 54)) = .ok (.slice A' l.length c') w' ∧ TRd w' A' l ∧ Keeps NoB w w' ∧
      ∀ g o sp, A' = some ⟨g, o, sp⟩ → w.heap.size ≤ g := by
  have hka : Keeps NoB w (w.alloc (.cells #[] 54)) := (Keeps.refl NoB w).alloc _
  have hown : OwnW (w.alloc (.cells #[] 54)) 54 3 (.slice (some ⟨w.heap.size, 0, none⟩) 0 0) 0 [] := ⟨by simp, .inr ⟨w.heap.size, 0, #[], rfl, Nat.zero_le _, heap_alloc_new w _, Nat.le_refl _, Nat.zero_le _, by simp, by simp⟩⟩
  obtain ⟨i0, hi', hz0, hz1, hz2⟩ := info_parts infoTorn
  cases A with
  | none =>
    have hl : l = [] := by
      cases l with
      | nil => rfl
      | cons t l => obtain ⟨b, o, e, _⟩ := hT 0 (by simp); cases e
    subst hl
    exact ⟨_, _, _, run_append_none _ _ _ _ i0 Tryz.underlying23 hi' _ 0 0 c (Nat.le_refl _), (fun i hi => by simp at hi), hka, fun g o sp e => by cases e; exact Nat.le_refl _⟩
  | some ad =>
    have hnews : ∀ j u, (l.flatMap tornCells)[j]? = some u → (w.alloc (.cells #[] 54)).cell? (ad.add j) = some u := fun j u hj => by
      have hlt : j < l.length * 3 := by rw [← tornFlat_len]; exact (List.getElem?_eq_some_iff.1 hj).1
      have hj3 : j / 3 < l.length := by omega
      have hji : j / 3 * 3 + j % 3 = j := by omega
      rw [← hji, tornFlat hj3 (j % 3) (Nat.mod_lt _ (by decide))] at hj
      obtain ⟨b, o, e, h0, h1, h2⟩ := hT.kept hka (j / 3) hj3
      cases e
      rw [add_lit, ← hji]
      have hm : j % 3 < 3 := Nat.mod_lt _ (by decide)
      generalize j % 3 = r at *
      match r, hm with
      | 0, _ => cases hj; exact h0
      | 1, _ => cases hj; exact h1
      | 2, _ => cases hj; exact h2
    obtain ⟨v', w', hr, h2, h3, _, h5⟩ := run_append_own_at (P := Tryz.prog) (w.alloc (.cells #[] 54)) 0 23 23 54 i0 _ 3 24 Tryz.underlying23 hi' hz0 hz1 hz2 rfl (by decide) _ 0 [] hown ad l.length c (l.flatMap tornCells) (tornFlat_len l) hnews
      (fun u hu => by
        obtain ⟨t, _, hu⟩ := List.mem_flatMap.1 hu
        simp only [tornCells, List.mem_cons, List.not_mem_nil, or_false] at hu
        rcases hu with rfl | rfl | rfl <;> rfl) (by unfold maxLen; omega) (by omega) (Nat.zero_le _)
    have h2' : OwnW w' 54 3 v' l.length (l.flatMap tornCells) := by
      rw [Nat.zero_add, List.nil_append] at h2
      exact h2
    obtain ⟨A', c', rfl, _⟩ := OwnW.slice h2'
    refine ⟨w', A', c', hr, fun i hi => ?_, (hka.trans (Keeps.of_grown h3 (fun b hb _ => hb)) (fun _ _ f => f) (fun i hi f => ?_)), fun g o sp e => ?_⟩
    · rcases h2'.2 with ⟨e, hn⟩ | ⟨g, cap, cur, e, hb, hg, r⟩
      · omega
      · cases e
        have hc := World.ownsRow.cells h2' (g := g) rfl
        have hcell : ∀ r u, r < 3 → (tornCells l[i])[r]? = some u → w'.cell? ⟨g, i * 3 + r, none⟩ = some u := fun r u hr hu => by
          have := hc (i * 3 + r) u (by rw [tornFlat hi r hr]; exact hu)
          rwa [add_lit, Nat.zero_add] at this
        refine ⟨g, 0, rfl, ?_, ?_, ?_⟩
        · have := hcell 0 _ (by decide) rfl
          simpa using this
        · have := hcell 1 _ (by decide) rfl
          simpa using this
        · have := hcell 2 _ (by decide) rfl
          simpa using this
    · have : i = w.heap.size := by simpa [ownB, Value.ownBlock] using f.symm
      omega
    · have hb : (Value.slice A' l.length c').ownBlock = some g ∨ A' = none := by
        subst e
        exact .inl rfl
      rcases h5 with h5 | h5
      · subst e
        simp [Value.ownBlock] at h5
        omega
      · subst e
        simp [Value.ownBlock] at h5
        have : (w.alloc (.cells #[] 54)).heap.size = w.heap.size + 1 := by
          show (w.heap.push _).size = _
          simp
        omega
section
variable {w0 w : World} {b N : Nat} {s : FSt}
theorem la_open (h : LiveAt w0 b s w) (S : ByteArray) (hS : S.size ≤ 9223372036854775807) :
    Calls Tryz.prog 45 #[.pointer (some ⟨b, 0, none⟩), .string S] w fun e w' => e = .returned (.tuple #[.int .i64 (s.opened S.data.toList).1, .int .i64 (s.opened S.data.toList).2]) ∧ Keeps NoB w w' := by
  obtain ⟨m, rfl, hi, ho, hk⟩ := h
  exact open_fs w m s hi S hS
theorem la_rename (h : LiveAt w0 b s w) (inv : Inv N s) (hN : N ≤ 900000000) (S T : ByteArray) (hS : S.size ≤ 9223372036854775807) (hT : T.size ≤ 9223372036854775807) :
    Calls Tryz.prog 47 #[.pointer (some ⟨b, 0, none⟩), .string S, .string T] w fun e w' => e = .returned (.int .i64 (s.rename S.data.toList T.data.toList).1) ∧ LiveAt w0 b (s.rename S.data.toList T.data.toList).2 w' ∧ KeepU w w' := by
  obtain ⟨m, rfl, hi, ho, hk⟩ := h
  exact (rename_fs w m s N hi inv hN S T hS hT).mono fun e w' ⟨he, hf⟩ => ⟨he, LiveAt.to hi ho hk hf⟩
/-- A crash, where the list of what is torn is newer than wx and the file system is not. -/
theorem la_crash2 {wx : World} (h : LiveAt w0 b s wx) (inv : Inv N s) (hN : N ≤ 900000000) (k : Keeps NoB wx w) (dir : Int) (hd0 : -9223372036854775808 ≤ dir) (hd1 : dir ≤ 9223372036854775807) (A : Option Addr) (c : Nat) (l : List TornS) (hl : l.length ≤ 4611686018427387904) (hT : TRd w A l)
    (hA : ∀ g o sp, A = some ⟨g, o, sp⟩ → wx.heap.size ≤ g) (hbd : ∀ t ∈ l, (-9223372036854775808 ≤ t.writes ∧ t.writes ≤ 9223372036854775807) ∧ (-9223372036854775808 ≤ t.bytes ∧ t.bytes ≤ 9223372036854775807)) :
    Calls Tryz.prog 8 #[.pointer (some ⟨b, 0, none⟩), .agg #[.int .i64 dir, .slice A l.length c]] w fun e w' => e = .returned (.tuple #[]) ∧ LiveAt w0 b (s.crash dir l) w' ∧ KeepU w w' := by
  obtain ⟨m, rfl, hi, ho, hk⟩ := h
  refine (crash_fs w m s N (hi.kept k) inv hN dir hd0 hd1 A c l hl hT (fun g o sp e _ hm => ?_) hbd).mono fun e w' ⟨he, hf⟩ => ⟨he, LiveAt.to (hi.kept k) ho (hk.then k) hf⟩
  have := FsMem.lt hi g hm
  have := hA g o sp e
  omega
end
end Go.Proofs.YtlhhcoijkjcneaaGreat
