/- simfs: changes of names of the whole file system: Create, Open, Rename, Remove. -/
import Derived.Test.YtlhhcoijkjcneaaGreatSimO
namespace Go.Proofs.YtlhhcoijkjcneaaGreat
open Go.RowKit Go.Maps Go.Lib

theorem Inv.change {N : Nat} {s : FSt} (h : Inv N s) (x : MoveS) (hm : MoveOk s.F.length s.D x) (hlen : (moved s.D x).length ≤ 4096) (hM : s.M.length + 1 ≤ N + 1) (hs : x.a.length ≤ 9223372036854775807 ∧ x.b.length ≤ 9223372036854775807) : Inv (N + 1) (s.change x) := by
  unfold FSt.change
  have h3 := h.ok.left
  have h4 := h.lim.ops
  refine ⟨⟨?_, h.ok.dirS, ?_, ?_, h.ok.cap, ?_, hlen, ?_⟩, h.files, ⟨?_, Nat.le_succ_of_le h.lim.files, ?_, fun n => Nat.le_succ_of_le (h.lim.log n), ?_, h.lim.dat⟩⟩
  · exact moved_good h.ok.dirD hm
  · exact h.ok.path.snoc (by rw [← h.ok.cur]; exact hm)
  · show moved s.D x = movedAll s.S (s.M ++ [x])
    rw [movedAll_snoc, ← h.ok.cur]
  · show -1 ≤ (if 0 < s.left then s.left - 1 else s.left) ∧ (if 0 < s.left then s.left - 1 else s.left) ≤ _
    split <;> omega
  · intro k
    show (movedAll s.S ((s.M ++ [x]).take k)).length ≤ 4096
    by_cases hk : k ≤ s.M.length
    · rw [List.take_append_of_le_length hk]; exact h.ok.lens k
    · rw [List.take_of_length_le (by simp; omega), movedAll_snoc, ← h.ok.cur]; exact hlen
  · show s.ops + 1 ≤ N + 1
    omega
  · show (s.M ++ [x]).length ≤ N + 1
    rw [List.length_append]; exact hM
  · intro y hy
    rcases List.mem_append.1 hy with hy | hy
    · exact h.lim.strs y hy
    · simp at hy; subst hy; exact hs
theorem moved_len (d : Dir) (hd : (d.map (·.1)).Nodup) (x : MoveS) (h : x.kind ≠ 99) : (moved d x).length ≤ d.length := by
  unfold moved
  rw [if_neg h]
  split
  · exact (less_sub d _).length_le
  · cases ha : d.at_ x.a with
    | none => exact Nat.le_refl _
    | some n =>
      dsimp only
      split
      · exact Nat.le_refl _
      · have h1 := less_len d x.a hd
        rw [show d.lookup x.a = some n from ha] at h1
        have h2 := (less_sub (d.less x.a) x.b).length_le
        simp at h1 ⊢
        omega
theorem changes_fs (w : World) (m : FsMem) (s : FSt) (N : Nat) (h : IsFS w m s) (inv : Inv N s) (hN : N ≤ 1000000000) (x : MoveS) (hm : MoveOk s.F.length s.D x) (hx : x.kind = 99 → (m.g x.n).isSome) (hs : x.a.length ≤ 9223372036854775807 ∧ x.b.length ≤ 9223372036854775807) :
    Calls Tryz.prog 66 #[.pointer (some ⟨m.b, 0, none⟩), .agg (moveCells x).toArray] w fun e w' => e = .returned (.int .i64 0) ∧ FsTo w m (s.change x) w' := by
  have hl := inv.ok.len
  have hF := inv.lim.files
  refine (changes_any w m.b m.mn s.F.length s.D _ _ _ m.mv _ s.ops s.left s.off s.M x h.blk (by have := inv.lim.ops; omega) inv.ok.left h.names inv.ok.dirD hm (by omega) (by omega) hs.1 hs.2 h.moves (by have := inv.lim.moves; omega)).mono ?_
  rintro e w' ⟨rfl, A', c', hb, hn, hv, hg, hk⟩
  have kd := h.kinds
  have hX : ∀ i, (i = m.b ∨ i = m.mn ∨ m.mv.ownBlock = some i) → knd w i = 79 + 1 ∨ knd w i = 0 ∨ knd w i = 81 + 1 := fun i hi => by
    rcases hi with rfl | rfl | hi
    · exact .inl kd.1
    · exact .inr (.inl kd.2.2.1)
    · exact .inr (.inr (kd.2.2.2.2 i hi))
  have nM : ∀ i, knd w i = 0 → i ≠ m.mn → ¬ (i = m.b ∨ i = m.mn ∨ m.mv.ownBlock = some i) := fun i h0 hne hi => by
    rcases hi with rfl | rfl | hi
    · rw [kd.1] at h0; exact absurd h0 (by decide)
    · exact hne rfl
    · rw [kd.2.2.2.2 i hi] at h0; exact absurd h0 (by decide)
  refine ⟨rfl, { m with mv := .slice A' (s.M.length + 1) c' }, rfl, ⟨hb, ?_, hn, ?_, ?_, ?_, h.apart, h.maps, ?_⟩, ?_, ?_⟩
  · exact h.files.keeps hk (nM _ kd.2.1 h.maps.2.1)
  · exact h.safe.keeps hk (nM _ kd.2.2.2.1 (fun e => h.maps.1 e.symm))
  · exact hv
  · intro n f hg
    obtain ⟨h1, h2, h3⟩ := h.file n f hg
    refine ⟨h1, h2, h3.keepsK hk fun i hi => ?_⟩
    rcases hX i hi with h4 | h4 | h4 <;> rw [h4] <;> exact ⟨by decide, by decide, by decide⟩
  · refine ⟨fun e he => ?_, h.has.2.1, fun y hy hk => ?_⟩
    · rcases moved_mem he with ⟨e', he', hn⟩ | ⟨hk, hn⟩
      · rw [← hn]; exact h.has.1 e' he'
      · rw [hn]; exact hx hk
    · rcases List.mem_append.1 hy with hy | hy
      · exact h.has.2.2 y hy hk
      · simp at hy; subst hy; exact hx hk
  · refine ⟨fun i hi => ?_, fun i hi => .inl hi⟩
    rcases hi with rfl | rfl | rfl | rfl | hi | hi
    · exact .inl (.inl rfl)
    · exact .inl (.inr (.inl rfl))
    · exact .inl (.inr (.inr (.inl rfl)))
    · exact .inl (.inr (.inr (.inr (.inl rfl))))
    · rcases hg i hi with h1 | h1
      · exact .inl (.inr (.inr (.inr (.inr (.inl h1)))))
      · exact .inr h1
    · exact .inl (.inr (.inr (.inr (.inr (.inr hi)))))
  · refine hk.mono fun i _ hi => ?_
    rcases hi with rfl | rfl | hi
    · exact .inl rfl
    · exact .inr (.inr (.inl rfl))
    · exact .inr (.inr (.inr (.inr (.inl hi))))
theorem lit_strs (w : World) (l : List ByteArray) (hl : l.length ≤ 1000) : VRd (w.alloc (.cells (l.map Value.string).toArray 9)) (some ⟨w.heap.size, 0, none⟩) (l.map Value.string) :=
  (own_lit w 9 (l.map Value.string) (by simp; omega)).vrd.2.2.2.2.2
theorem namesE_one (S : ByteArray) : namesE [S] = nameE S.data.toList := by
  unfold namesE nameE
  simp
theorem named_one (w : World) (b : Nat) (off : Bool) (h : w.cell? ⟨b, 8, none⟩ = some (.bool off)) (S : ByteArray) (hS : S.size ≤ 9223372036854775807) :
    Calls Tryz.prog 65 #[.pointer (some ⟨b, 0, none⟩), .slice (some ⟨w.heap.size, 0, none⟩) 1 1] (w.alloc (.cells #[.string S] 9)) fun e w' => e = .returned (.int .i64 (if off then 21 else nameE S.data.toList)) ∧ w.alloc (.cells #[.string S] 9) = w' := by
  have := named_some (w.alloc (.cells #[.string S] 9)) b off (((Keeps.refl NoB w).alloc _).cell h (fun f => f)) (some ⟨w.heap.size, 0, none⟩) 1 [S] (by simp) (fun T hT => by simp at hT; subst hT; exact hS) (lit_strs w [S] (by simp))
  rw [namesE_one] at this
  exact this
theorem named_two (w : World) (b : Nat) (off : Bool) (h : w.cell? ⟨b, 8, none⟩ = some (.bool off)) (S T : ByteArray) (hS : S.size ≤ 9223372036854775807) (hT : T.size ≤ 9223372036854775807) :
    Calls Tryz.prog 65 #[.pointer (some ⟨b, 0, none⟩), .slice (some ⟨w.heap.size, 0, none⟩) 2 2] (w.alloc (.cells #[.string S, .string T] 9)) fun e w' => e = .returned (.int .i64 (if off then 21 else namesE [S, T])) ∧ w.alloc (.cells #[.string S, .string T] 9) = w' :=
  named_some (w.alloc (.cells #[.string S, .string T] 9)) b off (((Keeps.refl NoB w).alloc _).cell h (fun f => f)) (some ⟨w.heap.size, 0, none⟩) 2 [S, T] (by simp) (fun U hU => by simp at hU; rcases hU with rfl | rfl <;> assumption) (lit_strs w [S, T] (by simp))
theorem open_nil (w : World) (S : ByteArray) : Calls Tryz.prog 45 #[.pointer none, .string S] w fun e w' => e = .returned (.tuple #[.int .i64 0, .int .i64 7]) ∧ Keeps NoB w w' := by
  go_enter Tryz.func45, Tryz.ntmps45
  go_wp2_with (go_at_call 65; refine (named_nil _ _).mono ?_; rintro e w' ⟨rfl, rfl⟩)
  go_ret2
  exact ⟨rfl, (Keeps.refl NoB w).alloc _⟩
set_option maxHeartbeats 4000000 in
set_option maxRecDepth 100000 in
theorem open_fs (w : World) (m : FsMem) (s : FSt) (h : IsFS w m s) (S : ByteArray) (hS : S.size ≤ 9223372036854775807) :
    Calls Tryz.prog 45 #[.pointer (some ⟨m.b, 0, none⟩), .string S] w fun e w' => e = .returned (.tuple #[.int .i64 (s.opened S.data.toList).1, .int .i64 (s.opened S.data.toList).2]) ∧ Keeps NoB w w' := by
  have HNM := Sd.mk (named_one w m.b s.off h.c.2.2.2.2.2.2.2.2 S hS)
  obtain ⟨R, hR⟩ : ∃ R, R = s.opened S.data.toList := ⟨_, rfl⟩
  rw [← hR]
  obtain ⟨t, ht⟩ : ∃ t, t = s.named1 S.data.toList := ⟨_, rfl⟩
  have HNM2 : Sd (Calls Tryz.prog 65 #[.pointer (some ⟨m.b, 0, none⟩), .slice (some ⟨w.heap.size, 0, none⟩) 1 1] (w.alloc (.cells #[.string S] 9)) fun e w' => e = .returned (.int .i64 t) ∧ w.alloc (.cells #[.string S] 9) = w') := ⟨by rw [ht]; exact HNM.o⟩
  have hk1 : Keeps NoB w (w.alloc (.cells #[.string S] 9)) := (Keeps.refl NoB w).alloc _
  have h1 := h.kept hk1
  have c2 := h1.c.2.2.1
  have hlook := h1.names.look S hS
  have HR : Sd (R = if t ≠ 0 then ((0 : Int), t) else match s.D.lookup S.data.toList with | none => ((0 : Int), (7 : Int)) | some n => (((n : Nat) : Int), (0 : Int))) := ⟨by rw [hR, ht]; rfl⟩
  have HT := Sd.mk ht
  clear h h1 hR HNM ht
  by_cases ht0 : t = 0
  case neg =>
    have hb : (t != 0) = true := by simpa using ht0
    have hfin : Sd (R = (0, t)) := ⟨by rw [HR.o, if_pos ht0]⟩
    go_enter Tryz.func45, Tryz.ntmps45
    go_wp2_with (go_at_call 65; refine HNM2.o.mono ?_; rintro e w' ⟨rfl, rfl⟩)
    go_ret2
    rw [hfin.o]
    exact ⟨rfl, (Keeps.refl NoB w).alloc _⟩
  have hb : (t != 0) = false := by simp [ht0]
  cases hl : s.D.lookup S.data.toList with
  | none =>
    rw [hl] at hlook HR
    have hfin : Sd (R = (0, 7)) := ⟨by rw [HR.o, if_neg (fun h => h ht0)]⟩
    go_enter Tryz.func45, Tryz.ntmps45
    go_wp2_with (go_at_call 65; refine HNM2.o.mono ?_; rintro e w' ⟨rfl, rfl⟩)
    go_ret2
    rw [hfin.o]
    exact ⟨rfl, (Keeps.refl NoB w).alloc _⟩
  | some n =>
    rw [hl] at hlook HR
    have hfin : Sd (R = (((n : Nat) : Int), 0)) := ⟨by rw [HR.o, if_neg (fun h => h ht0)]⟩
    go_enter Tryz.func45, Tryz.ntmps45
    go_wp2_with (go_at_call 65; refine HNM2.o.mono ?_; rintro e w' ⟨rfl, rfl⟩)
    go_ret2
    rw [hfin.o]
    exact ⟨rfl, (Keeps.refl NoB w).alloc _⟩
section
variable {w : World} {ops : Array Oper} {o : Oper} {a : Act} {Q : Exit → Act → World → Prop}
theorem step_put_files {K : Act → World → Prop} {E : Prop} (hgd : o.guard = none) (m x v : Operand) (hop : o.op = Op.mapUpdate 76 m x v) {b N : Nat} {g : Nat → Option Nat} (hm : a.eval m = .map (some b)) (h : MapF w b N g)
    (k fb : Nat) (hx : a.eval x = .int .i64 (k : Nat)) (hv : a.eval v = .pointer (some ⟨fb, 0, none⟩)) (hk : k ≤ 4611686018427387904) (hN : N ≤ 4611686018427387904)
    (hK : ∀ w', MapF w' b (N + 1) (fun j => if j = k then some fb else g j) → Keeps (OneB b) w w' → K (a.put o.dst undef) w') : if Region.wanted o (yielded ops a.tmps) = true then o.wp Tryz.prog a w K Q else E := by
  have hw : Region.wanted o (yielded ops a.tmps) = true := by simp [Region.wanted, hgd]
  rw [if_pos hw]
  obtain ⟨w', hrun, r1, r2⟩ := h.put k fb hk hN
  unfold Oper.wp
  simp [execOp, hop, hm, hx, hv, hrun, Result.andThen]
  exact hK _ r1 r2
end
/-- A new file. -/
theorem IsFS.newFile {w w' : World} {m : FsMem} {s : FSt} (h : IsFS w m s) (fb : Nat) (hfb : w.heap.size ≤ fb) (hF : w'.heap[fb]? = some (.cells #[.slice none 0 0, .slice none 0 0, .slice none 0 0] 91 (0, 0)))
    (hb : w'.heap[m.b]? = some (.cells (fsCells m { s with F := s.F ++ [noFile] }) 79 (0, 0))) (hm : MapF w' m.mf (s.F.length + 1 + 4096) (fun j => if j = s.F.length + 1 then some fb else (m.g j).map (·.fb)))
    (hK : Keeps (fun i => i = m.b ∨ i = m.mf) w w') :
    IsFS w' { m with g := fun j => if j = s.F.length + 1 then some ⟨fb, .slice none 0 0, .slice none 0 0, .slice none 0 0⟩ else m.g j } { s with F := s.F ++ [noFile] } := by
  have kd := h.kinds
  have nM : ∀ i, i ≠ m.b → i ≠ m.mf → ¬ (i = m.b ∨ i = m.mf) := fun i h1 h2 hi => hi.elim h1 h2
  have hne : ∀ i, knd w i = 0 → i ≠ m.b := fun i h0 e => by rw [e, kd.1] at h0; exact absurd h0 (by decide)
  have hnone : ∀ n f, m.g n = some f → n ≠ s.F.length + 1 := fun n f hg e => by have := (h.file n f hg).2.1; omega
  refine ⟨hb, ?_, ?_, ?_, ?_, ?_, ?_, h.maps, ?_⟩
  · rw [show ({ s with F := s.F ++ [noFile] } : FSt).F.length = s.F.length + 1 by simp]
    refine hm.congr fun j => ?_
    dsimp only
    split <;> rfl
  · exact h.names.keeps hK (nM _ (hne _ kd.2.2.1) (fun e => h.maps.2.1 e.symm))
  · exact h.safe.keeps hK (nM _ (hne _ kd.2.2.2.1) (fun e => h.maps.2.2 e.symm))
  · refine OwnW.keeps h.moves hK (fun i hi hx => ?_)
    have h1 := kd.2.2.2.2 i hi
    rcases hx with rfl | rfl
    · rw [kd.1] at h1; exact absurd h1 (by decide)
    · rw [kd.2.1] at h1; exact absurd h1 (by decide)
  · intro n f hg
    dsimp only at hg
    by_cases hn : n = s.F.length + 1
    · rw [if_pos hn] at hg
      cases hg
      subst hn
      refine ⟨by omega, by simp, ⟨hF, ?_, ?_, ?_⟩⟩
      · have : FSt.file { s with F := s.F ++ [noFile] } (s.F.length + 1) = noFile := by simp [FSt.file]
        rw [this]; exact RowU.nil _
      · have : FSt.file { s with F := s.F ++ [noFile] } (s.F.length + 1) = noFile := by simp [FSt.file]
        rw [this]; exact RowU.nil _
      · have : FSt.file { s with F := s.F ++ [noFile] } (s.F.length + 1) = noFile := by simp [FSt.file]
        rw [this]; exact logV_nil _
    · rw [if_neg hn] at hg
      obtain ⟨h1, h2, h3⟩ := h.file n f hg
      have e1 : FSt.file { s with F := s.F ++ [noFile] } n = s.file n := by
        unfold FSt.file
        dsimp only
        rw [List.getD_eq_getElem?_getD, List.getD_eq_getElem?_getD, List.getElem?_append_left (by omega)]
      rw [e1]
      refine ⟨h1, by simp; omega, h3.keepsK hK fun i hi => ?_⟩
      rcases hi with rfl | rfl
      · rw [kd.1]; exact ⟨by decide, by decide, by decide⟩
      · rw [kd.2.1]; exact ⟨by decide, by decide, by decide⟩
  · intro n n' f f' hg hg' hnn i hi hi'
    dsimp only at hg hg'
    have hlo : ∀ (x : FMem), x = ⟨fb, .slice none 0 0, .slice none 0 0, .slice none 0 0⟩ → ∀ i, x.O i → w.heap.size ≤ i := fun x e i hi => by
      subst e
      rcases hi with rfl | hi
      · exact hfb
      · simp [Value.ownBlock] at hi
    by_cases hn : n = s.F.length + 1
    · rw [if_pos hn] at hg
      have hn' : n' ≠ s.F.length + 1 := fun e => hnn (hn.trans e.symm)
      rw [if_neg hn'] at hg'
      have h1 := hlo f (Option.some.inj hg).symm i hi
      have h2 := (h.file n' f' hg').2.2.lt i hi'
      omega
    · rw [if_neg hn] at hg
      by_cases hn' : n' = s.F.length + 1
      · rw [if_pos hn'] at hg'
        have h1 := hlo f' (Option.some.inj hg').symm i hi'
        have h2 := (h.file n f hg).2.2.lt i hi
        omega
      · rw [if_neg hn'] at hg'
        exact h.apart n n' f f' hg hg' hnn i hi hi'
  · have hs : ∀ n, (m.g n).isSome → ((fun j => if j = s.F.length + 1 then some (⟨fb, .slice none 0 0, .slice none 0 0, .slice none 0 0⟩ : FMem) else m.g j) n).isSome := fun n hn => by
      dsimp only
      split
      · rfl
      · exact hn
    exact ⟨fun e he => hs _ (h.has.1 e he), fun e he => hs _ (h.has.2.1 e he), fun x hx hk => hs _ (h.has.2.2 x hx hk)⟩
theorem Inv.newFile {N : Nat} {s : FSt} (h : Inv N s) : Inv (N + 1) { s with F := s.F ++ [noFile] } := by
  have hf : ∀ n, FSt.file { s with F := s.F ++ [noFile] } n = s.file n := fun n => by
    unfold FSt.file
    dsimp only
    rw [List.getD_eq_getElem?_getD, List.getD_eq_getElem?_getD]
    by_cases hn : n - 1 < s.F.length
    · rw [List.getElem?_append_left hn]
    · rw [List.getElem?_append_right (by omega), List.getElem?_eq_none (by omega : s.F.length ≤ n - 1)]
      by_cases h0 : n - 1 - s.F.length = 0
      · rw [h0]; rfl
      · rw [List.getElem?_eq_none (by simp; omega)]
  have hl : s.F.length ≤ ({ s with F := s.F ++ [noFile] } : FSt).F.length := by simp
  exact ⟨⟨h.ok.dirD.mono hl, h.ok.dirS.mono hl, h.ok.path.mono hl, h.ok.cur, h.ok.cap, h.ok.left, h.ok.len, h.ok.lens⟩, fun n => by rw [hf]; exact h.files n,
    ⟨Nat.le_succ_of_le h.lim.ops, by have := h.lim.files; simp; omega, Nat.le_succ_of_le h.lim.moves, fun n => by rw [hf]; exact Nat.le_succ_of_le (h.lim.log n), h.lim.strs, fun n => by rw [hf]; exact h.lim.dat n⟩⟩
end Go.Proofs.YtlhhcoijkjcneaaGreat
