/- simfs, plainly: acts; two file systems are the same either way. -/
import Derived.Test.YtlhhcoijkjcneaaGreatRfK
import Derived.Test.YtlhhcoijkjcneaaGreatSimLo
import Derived.Test.YtlhhcoijkjcneaaGreatSimEs
import Derived.Test.YtlhhcoijkjcneaaGreatSimU
import Derived.Test.YtlhhcoijkjcneaaGreatSimSb
import Derived.Test.YtlhhcoijkjcneaaGreatRfM
import Derived.Test.YtlhhcoijkjcneaaGreatRfQ
import Derived.Test.YtlhhcoijkjcneaaGreatSimV
namespace Go.Proofs.YtlhhcoijkjcneaaGreat
open Go.RowKit

/-- What an act makes of a file system. -/
def FSt.act (s : FSt) (y : ActM) : FSt :=
  if y.kind = 1 then (s.create y.a.data.toList).2.2
  else if y.kind = 3 then (s.write y.file y.at_ y.data).2
  else if y.kind = 4 then (s.append y.file y.data).2
  else if y.kind = 5 then (s.cutAt y.file y.n).2
  else if y.kind = 7 then (s.sync y.file).2
  else if y.kind = 8 then (s.rename y.a.data.toList y.b.data.toList).2
  else if y.kind = 9 then (s.remove y.a.data.toList).2
  else if y.kind = 10 then s.syncDir.2
  else if y.kind = 11 then s.crash y.dir y.L
  else if y.kind = 12 then s.arm y.n
  else if y.kind = 13 then (s.setCap y.n).2
  else s
theorem Inv.setCap {N : Nat} {s : FSt} (h : Inv N s) (n : Int) : Inv N (s.setCap n).2 := by
  unfold FSt.setCap
  split
  · exact h
  · exact ⟨⟨h.ok.dirD, h.ok.dirS, h.ok.path, h.ok.cur, ⟨by dsimp only; omega, by dsimp only; omega⟩, h.ok.left, h.ok.len, h.ok.lens⟩, h.files, ⟨h.lim.ops, h.lim.files, h.lim.moves, h.lim.log, h.lim.strs, h.lim.dat⟩⟩
theorem Inv.act {N : Nat} {s : FSt} (h : Inv N s) (y : ActM) (hd : y.data.length ≤ 70368744177664) (hn : Is64 y.n) : Inv (N + 2) (s.act y) := by
  unfold FSt.act
  split
  · exact h.create _
  · split
    · exact (h.write _ _ _ hd).mono (by omega)
    · split
      · exact (h.append _ _ hd).mono (by omega)
      · split
        · exact (h.cutAt _ _).mono (by omega)
        · split
          · exact (h.sync _).mono (by omega)
          · split
            · exact (h.rename _ _).mono (by omega)
            · split
              · exact (h.remove _).mono (by omega)
              · split
                · exact h.syncDir.mono (by omega)
                · split
                  · exact (h.crash _ _).mono (by omega)
                  · split
                    · exact (h.arm _ hn.2).mono (by omega)
                    · split
                      · exact (h.setCap _).mono (by omega)
                      · exact h.mono (by omega)
theorem nodup_back {α : Type} [DecidableEq α] : ∀ (l1 l2 : List α), l1.Nodup → (∀ x ∈ l1, x ∈ l2) → l2.length ≤ l1.length → ∀ x ∈ l2, x ∈ l1
  | [], l2, _, _, hl, x, hx => by
    have : l2 = [] := List.eq_nil_of_length_eq_zero (by simpa using hl)
    rw [this] at hx
    cases hx
  | a :: t, l2, hn, hs, hl, x, hx => by
    simp only [List.nodup_cons] at hn
    have ha := hs a List.mem_cons_self
    by_cases hxa : x = a
    · rw [hxa]; exact List.mem_cons_self
    · refine List.mem_cons_of_mem _ (nodup_back t (l2.erase a) hn.2 (fun z hz => ?_) ?_ x ?_)
      · have hza : z ≠ a := fun e => hn.1 (e ▸ hz)
        exact (List.mem_erase_of_ne hza).2 (hs z (List.mem_cons_of_mem _ hz))
      · rw [List.length_erase_of_mem ha]
        simp only [List.length_cons] at hl
        omega
      · exact (List.mem_erase_of_ne hxa).2 hx
theorem alikeF_symm (x y : FileS) (now : Bool) : alikeF x y now = alikeF y x now := by
  unfold alikeF
  congr 1
  · congr 1
    · exact decide_eq_decide.2 eq_comm
    · exact decide_eq_decide.2 eq_comm
  · congr 1
    exact decide_eq_decide.2 eq_comm
theorem alikeS_back {s1 s2 : FSt} {d1 d2 : Dir} {now : Bool} (h1 : (d1.map (·.1)).Nodup) (h2 : (d2.map (·.1)).Nodup) (h : alikeS s1 d1 s2 d2 now = true) : alikeS s2 d2 s1 d1 now = true := by
  unfold alikeS at h
  rw [Bool.and_eq_true, List.all_eq_true] at h
  obtain ⟨hl, ha⟩ := h
  have hl' : d1.length = d2.length := of_decide_eq_true hl
  have hsub : ∀ x ∈ d1.map (·.1), x ∈ d2.map (·.1) := fun x hx => by
    obtain ⟨e, he, rfl⟩ := List.mem_map.1 hx
    have := ha e he
    unfold alikeE at this
    cases hk : d2.lookup e.1 with
    | none => rw [hk] at this; cases this
    | some m => exact List.mem_map.2 ⟨_, lookup_mem hk, rfl⟩
  have hback := nodup_back _ _ h1 hsub (by simp [hl'])
  unfold alikeS
  rw [decide_eq_true hl'.symm, Bool.true_and, List.all_eq_true]
  intro e he
  obtain ⟨e', he', hn⟩ := List.mem_map.1 (hback e.1 (List.mem_map.2 ⟨e, he, rfl⟩))
  have h3 := mem_lookup h1 (show (e'.1, e'.2) ∈ d1 from he')
  have h4 := mem_lookup h2 (show (e.1, e.2) ∈ d2 from he)
  have h5 := ha e' he'
  unfold alikeE at h5 ⊢
  have hn' : e'.1 = e.1 := hn
  rw [hn'] at h3 h5
  rw [h4] at h5
  rw [h3]
  exact (alikeF_symm _ _ _).trans h5
theorem mAll_symm (xs ys : List MoveS) : mAll xs ys = mAll ys xs := by
  have hs : ∀ x y : MoveS, mSame x y = mSame y x := fun x y => by
    unfold mSame
    congr 1
    · congr 1
      · exact decide_eq_decide.2 eq_comm
      · exact decide_eq_decide.2 eq_comm
    · exact decide_eq_decide.2 eq_comm
  unfold mAll
  by_cases hl : xs.length = ys.length
  · rw [decide_eq_true hl, decide_eq_true hl.symm, hl]
    congr 1
    congr 1
    funext i
    exact hs _ _
  · rw [decide_eq_false hl, decide_eq_false (fun e => hl e.symm)]
    rfl
theorem FSt.same_symm (s1 s2 : FSt) (o1 : FsOk s1) (o2 : FsOk s2) : s1.same s2 = s2.same s1 := by
  unfold FSt.same
  have e1 : alikeS s1 s1.D s2 s2.D true = alikeS s2 s2.D s1 s1.D true := by
    rw [Bool.eq_iff_iff]
    exact ⟨alikeS_back o1.dirD.names o2.dirD.names, alikeS_back o2.dirD.names o1.dirD.names⟩
  have e2 : alikeS s1 s1.S s2 s2.S false = alikeS s2 s2.S s1 s1.S false := by
    rw [Bool.eq_iff_iff]
    exact ⟨alikeS_back o1.dirS.names o2.dirS.names, alikeS_back o2.dirS.names o1.dirS.names⟩
  rw [e1, e2, mAll_symm]
end Go.Proofs.YtlhhcoijkjcneaaGreat
namespace Go.Proofs.YtlhhcoijkjcneaaGreat
open Go.RowKit Go.Maps Go.Lib

theorem RowU.keepsD {F : Nat → Prop} {w w' : World} {v : Value} {xs : List UInt8} (h : RowU w v xs) (k : Keeps F w w') (hF : ∀ b, datB v = some b → ¬ F b) : RowU w' v xs := by
  have hne : ∀ a n c, v = .slice (some a) n c → 0 < c → ¬ F a.block := fun a n c e hc => hF _ (by
    rw [e]
    simp only [datB]
    rw [if_neg (by omega)]
    rfl)
  refine ⟨h.1.keeps k (fun a n c e hc => hne _ _ _ e hc), fun a n c e hc => ?_⟩
  obtain ⟨cur, q, hb⟩ := h.2 a n c e hc
  exact ⟨cur, q, k.obj hb (hne _ _ _ e hc)⟩
theorem IsFile.keepsD {F : Nat → Prop} {w w' : World} {f : FMem} {x : FileS} (h : IsFile w f x) (k : Keeps F w w') (hF : ∀ i, f.O i → ¬ F i) (hD : ∀ i, datB f.dv = some i ∨ datB f.sv = some i → ¬ F i) : IsFile w' f x :=
  ⟨k.obj h.blk (hF _ (.inl rfl)), h.dat.keepsD k (fun b hb => hD b (.inl hb)), h.saf.keepsD k (fun b hb => hD b (.inr hb)), h.log.keeps k (fun i hi => hF i (.inr hi))⟩
theorem IsFS.keepsD {F : Nat → Prop} {w w' : World} {m : FsMem} {s : FSt} (h : IsFS w m s) (k : Keeps F w w') (hF : ∀ i, m.O i → ¬ F i) (hD : ∀ i, m.DB i → ¬ F i) : IsFS w' m s :=
  ⟨k.obj h.blk (hF _ (.inl rfl)), h.files.keeps k (hF _ (.inr (.inl rfl))), h.names.keeps k (hF _ (.inr (.inr (.inl rfl)))), h.safe.keeps k (hF _ (.inr (.inr (.inr (.inl rfl))))),
   h.moves.keeps k (fun i hi => hF i (.inr (.inr (.inr (.inr (.inl hi)))))), fun n f hg => ⟨(h.file n f hg).1, (h.file n f hg).2.1, (h.file n f hg).2.2.keepsD k (fun i hi => hF i (.inr (.inr (.inr (.inr (.inr ⟨n, f, hg, hi⟩)))))) (fun i hi => hD i ⟨n, f, hg, hi⟩)⟩, h.apart, h.maps, h.has⟩
theorem IsFS.datLt {w : World} {m : FsMem} {s : FSt} (h : IsFS w m s) {k : Nat} (hk : m.DB k) : k < w.heap.size := by
  obtain ⟨n, f, hg, hd⟩ := hk
  obtain ⟨_, _, hf⟩ := h.file n f hg
  rcases hd with hd | hd
  · exact hf.dat.datLt hd
  · exact hf.saf.datLt hd
/-- A file system s at b and the document's t at rb; the blocks X hold what X says, and are others'. -/
def HalfAt (w0 : World) (X : Nat → Option Obj) (b rb : Nat) (s t : FSt) (w : World) : Prop :=
  ∃ (m : FsMem) (rm : RMem), m.b = b ∧ rm.b = rb ∧ IsFS w m s ∧ IsRS w rm t ∧ (∀ k, m.O k → ¬ rm.O k) ∧ (∀ k, m.O k ∨ m.DB k ∨ rm.O k → X k = none) ∧ (∀ k, m.O k ∨ rm.O k → w0.heap.size ≤ k) ∧ Keeps NoB w0 w ∧ ∀ k o, X k = some o → w.heap[k]? = some o
/-- Both are s. -/
def BothAt (w0 : World) (X : Nat → Option Obj) (b rb : Nat) (s : FSt) (w : World) : Prop := HalfAt w0 X b rb s s w
def addB (X : Nat → Option Obj) (g : Nat) (o : Obj) : Nat → Option Obj := fun i => if i = g then some o else X i
def noX : Nat → Option Obj := fun _ => none
section
variable {w0 w w' : World} {X : Nat → Option Obj} {b rb N : Nat} {s s' t t' : FSt}
theorem HalfAt.keeps (h : HalfAt w0 X b rb s t w) : Keeps NoB w0 w := by
  obtain ⟨m, rm, _, _, _, _, _, _, _, hk, _⟩ := h
  exact hk
theorem HalfAt.blk (h : HalfAt w0 X b rb s t w) {g : Nat} {o : Obj} (hg : X g = some o) : w.heap[g]? = some o := by
  obtain ⟨m, rm, _, _, _, _, _, _, _, _, hl⟩ := h
  exact hl g o hg
theorem HalfAt.kept (h : HalfAt w0 X b rb s t w) (k : Keeps NoB w w') : HalfAt w0 X b rb s t w' := by
  obtain ⟨m, rm, e1, e2, hi, hr, ha, hx, ho, hk, hl⟩ := h
  exact ⟨m, rm, e1, e2, hi.kept k, hr.kept k, ha, hx, ho, hk.then k, fun i o hi => k.obj (hl i o hi) (fun f => f)⟩
theorem HalfAt.fs (h : HalfAt w0 X b rb s t w) : ∃ m : FsMem, m.b = b ∧ IsFS w m s := by
  obtain ⟨m, rm, e1, e2, hi, _⟩ := h
  exact ⟨m, e1, hi⟩
theorem HalfAt.rs (h : HalfAt w0 X b rb s t w) : ∃ m : RMem, m.b = rb ∧ IsRS w m t := by
  obtain ⟨m, rm, e1, e2, hi, hr, _⟩ := h
  exact ⟨rm, e2, hr⟩
/-- Another's block changes. -/
theorem HalfAt.turn (h : HalfAt w0 X b rb s t w) {g : Nat} {o o' : Obj} (hX : X g = some o) (hg : w0.heap.size ≤ g) (k : Keeps (OneB g) w w') (hb : w'.heap[g]? = some o') : HalfAt w0 (addB X g o') b rb s t w' := by
  obtain ⟨m, rm, e1, e2, hi, hr, ha, hx, ho, hk, hl⟩ := h
  have hne : ∀ i, m.O i ∨ m.DB i ∨ rm.O i → i ≠ g := fun i hi e => by
    have := hx i hi
    rw [e, hX] at this
    cases this
  refine ⟨m, rm, e1, e2, hi.keepsD k (fun i hi => hne i (.inl hi)) (fun i hi => hne i (.inr (.inl hi))), hr.keeps k (fun i hi => hne i (.inr (.inr hi))), ha, fun i hi => ?_, ho, hk.trans k (fun _ _ f => f) (fun i hi f => by
    have : i = g := f
    omega), fun i o1 h1 => ?_⟩
  · unfold addB
    rw [if_neg (hne i hi)]
    exact hx i hi
  · unfold addB at h1
    split at h1
    · rename_i e
      subst e
      cases h1
      exact hb
    · rename_i e
      exact k.obj (hl i o1 h1) (fun f => e f)
/-- One more block is another's. -/
theorem HalfAt.more (h : HalfAt w0 X b rb s t w) {g : Nat} {o : Obj} (hg : w.heap.size ≤ g) (k : Keeps NoB w w') (hb : w'.heap[g]? = some o) : HalfAt w0 (addB X g o) b rb s t w' := by
  obtain ⟨m, rm, e1, e2, hi, hr, ha, hx, ho, hk, hl⟩ := h
  refine ⟨m, rm, e1, e2, hi.kept k, hr.kept k, ha, fun i hi2 => ?_, ho, hk.then k, fun i o1 h1 => ?_⟩
  · unfold addB
    rw [if_neg (fun e => ?_)]
    · exact hx i hi2
    · subst e
      rcases hi2 with h1 | h1 | h1
      · have := FsMem.lt hi _ h1; omega
      · have := hi.datLt h1; omega
      · have := RMem.lt hr _ h1; omega
  · unfold addB at h1
    split at h1
    · rename_i e
      subst e
      cases h1
      exact hb
    · exact k.obj (hl i o1 h1) (fun f => f)
theorem HalfAt.less (h : HalfAt w0 X b rb s t w) {Y : Nat → Option Obj} (hY : ∀ i o, Y i = some o → X i = some o) : HalfAt w0 Y b rb s t w := by
  obtain ⟨m, rm, e1, e2, hi, hr, ha, hx, ho, hk, hl⟩ := h
  refine ⟨m, rm, e1, e2, hi, hr, ha, fun i h1 => ?_, ho, hk, fun i o h1 => hl i o (hY i o h1)⟩
  cases hy : Y i with
  | none => rfl
  | some o =>
    have h2 := hY i o hy
    rw [hx i h1] at h2
    cases h2
/-- An operation of the program. -/
theorem HalfAt.op1k {w1 : World} {P : Program} {f : FuncId} {args : Array Value} {r : Ending → Prop} (h : HalfAt w0 X b rb s t w1) (kw : Keeps NoB w1 w) (hc : ∀ m : FsMem, m.b = b → IsFS w m s → (∀ k, m.O k → w0.heap.size ≤ k ∧ k < w1.heap.size) → Calls P f args w fun e w' => r e ∧ FsTo w m s' w') :
    Calls P f args w fun e w' => r e ∧ HalfAt w0 X b rb s' t w' := by
  obtain ⟨m, rm, e1, e2, hi0, hr0, ha, hx, ho, hk0, hl0⟩ := h
  have hi := hi0.kept kw
  have hr := hr0.kept kw
  have hk := hk0.then kw
  have hl : ∀ k o, X k = some o → w.heap[k]? = some o := fun i o hi => kw.obj (hl0 i o hi) (fun f => f)
  refine (hc m e1 hi (fun k hk => ⟨ho k (.inl hk), FsMem.lt hi0 k hk⟩)).mono fun e w' ⟨he, m', hb, hi', hg, hk'⟩ => ⟨he, m', rm, hb.trans e1, e2, hi', hr.keeps hk' (fun i h1 h2 => ha i h2 h1), fun k h1 h2 => ?_, fun k h1 => ?_, fun k h1 => ?_, hk.trans hk' (fun _ _ f => f) (fun i hi f => absurd (ho i (.inl f)) (by omega)), fun i o hX => hk'.obj (hl i o hX) (fun f => by
    rw [hx i (.inl f)] at hX
    cases hX)⟩
  · rcases hg.1 k h1 with h3 | h3
    · exact ha k h3 h2
    · have := RMem.lt hr k h2; omega
  · have fresh : w.heap.size ≤ k → X k = none := fun h3 => by
      cases hX : X k with
      | none => rfl
      | some o =>
        have := (Array.getElem?_eq_some_iff.1 (hl k o hX)).1
        omega
    rcases h1 with h1 | h1 | h1
    · rcases hg.1 k h1 with h3 | h3
      · exact hx k (.inl h3)
      · exact fresh h3
    · rcases hg.2 k h1 with h3 | h3
      · exact hx k (.inr (.inl h3))
      · exact fresh h3
    · exact hx k (.inr (.inr h1))
  · rcases h1 with h1 | h1
    · rcases hg.1 k h1 with h3 | h3
      · exact ho k (.inl h3)
      · exact Nat.le_trans hk.size h3
    · exact ho k (.inr h1)
theorem HalfAt.op1 {P : Program} {f : FuncId} {args : Array Value} {r : Ending → Prop} (h : HalfAt w0 X b rb s t w) (hc : ∀ m : FsMem, m.b = b → IsFS w m s → (∀ k, m.O k → w0.heap.size ≤ k) → Calls P f args w fun e w' => r e ∧ FsTo w m s' w') :
    Calls P f args w fun e w' => r e ∧ HalfAt w0 X b rb s' t w' := h.op1k (Keeps.refl NoB w) fun m hb hi ho => hc m hb hi fun k hk => (ho k hk).1
/-- An operation of the document. -/
theorem HalfAt.op2 {P : Program} {f : FuncId} {args : Array Value} {r : Ending → Prop} (h : HalfAt w0 X b rb s t w) (hc : ∀ m : RMem, m.b = rb → IsRS w m t → (∀ k, m.O k → w0.heap.size ≤ k) → Calls P f args w fun e w' => r e ∧ RsTo w m t' w') :
    Calls P f args w fun e w' => r e ∧ HalfAt w0 X b rb s t' w' := by
  obtain ⟨m, rm, e1, e2, hi, hr, ha, hx, ho, hk, hl⟩ := h
  refine (hc rm e2 hr (fun k hk => ho k (.inr hk))).mono fun e w' ⟨he, rm', hb, hr', hg, hk'⟩ => ⟨he, m, rm', e1, hb.trans e2, hi.keeps hk' (fun i h1 h2 => ha i h1 h2) (RMem.notU8 hr), hr', fun k h1 h2 => ?_, fun k h1 => ?_, fun k h1 => ?_, hk.trans hk' (fun _ _ f => f) (fun i hi f => absurd (ho i (.inr f)) (by omega)), fun i o hX => hk'.obj (hl i o hX) (fun f => by
    rw [hx i (.inr (.inr f))] at hX
    cases hX)⟩
  · rcases hg k h2 with h3 | h3
    · exact ha k h1 h3
    · have := FsMem.lt hi k h1; omega
  · rcases h1 with h1 | h1 | h1
    · exact hx k (.inl h1)
    · exact hx k (.inr (.inl h1))
    · rcases hg k h1 with h3 | h3
      · exact hx k (.inr (.inr h3))
      · cases hX : X k with
        | none => rfl
        | some o =>
          have := (Array.getElem?_eq_some_iff.1 (hl k o hX)).1
          omega
  · rcases h1 with h1 | h1
    · exact ho k (.inl h1)
    · rcases hg k h1 with h3 | h3
      · exact ho k (.inr h3)
      · exact Nat.le_trans hk.size h3
/-- Both are made. -/
theorem HalfAt.mk' {w1 w2 : World} {m : FsMem} {rm : RMem} (k0 : Keeps NoB w0 w) (hi : IsFS w1 m s) (ho : ∀ k, m.O k → w.heap.size ≤ k) (k1 : Keeps NoB w w1) (hr : IsRS w2 rm t) (ho2 : ∀ k, rm.O k → w1.heap.size ≤ k) (k2 : Keeps NoB w1 w2) : HalfAt w0 noX m.b rm.b s t w2 :=
  ⟨m, rm, rfl, rfl, hi.kept k2, hr, fun k h1 h2 => by
    have := FsMem.lt hi k h1
    have := ho2 k h2
    omega, fun _ _ => rfl, fun k hk => by
    have h1 := k0.size
    have h2 := k1.size
    rcases hk with hk | hk
    · have := ho k hk; omega
    · have := ho2 k hk; omega, (k0.then k1).then k2, fun i o hX => by cases hX⟩
end
end Go.Proofs.YtlhhcoijkjcneaaGreat
namespace Go.Proofs.YtlhhcoijkjcneaaGreat
open Go.RowKit Go.Maps Go.Lib

set_option maxHeartbeats 1000000 in
set_option maxRecDepth 100000 in
theorem setcap_fs (w : World) (m : FsMem) (s : FSt) (h : IsFS w m s) (n : Int) : Calls Tryz.prog 54 #[.pointer (some ⟨m.b, 0, none⟩), .int .i64 n] w fun e w' => e = .returned (.int .i64 (s.setCap n).1) ∧ FsTo w m (s.setCap n).2 w' := by
  have c5 := h.c.2.2.2.2.2.1
  have f5 := blk_frozen h.blk 5
  have H := Sd.mk h
  clear h
  by_cases h0 : n < 0
  · have HR : Sd (s.setCap n = (2, s)) := ⟨if_pos (.inl h0)⟩
    go_enter Tryz.func54, Tryz.ntmps54
    go_wp2
    go_ret
    exact ⟨by rw [HR.o]; rfl, by rw [HR.o]; exact FsTo.same H.o (Keeps.refl NoB w)⟩
  by_cases h1 : 67108864 < n
  · have HR : Sd (s.setCap n = (2, s)) := ⟨if_pos (.inr h1)⟩
    go_enter Tryz.func54, Tryz.ntmps54
    go_wp2
    go_ret
    exact ⟨by rw [HR.o]; rfl, by rw [HR.o]; exact FsTo.same H.o (Keeps.refl NoB w)⟩
  have HR : Sd (s.setCap n = (0, { s with cap := n })) := ⟨if_neg (by omega)⟩
  go_enter Tryz.func54, Tryz.ntmps54
  go_wp2
  go_ret
  refine ⟨by rw [HR.o]; rfl, ?_⟩
  rw [HR.o]
  have hk : Keeps (OneB m.b) w (w.setCell ⟨m.b, 5, none⟩ (.int .i64 n)) := (Keeps.refl (OneB m.b) w).setCell ⟨m.b, 5, none⟩ _ (fun _ => rfl)
  obtain ⟨n1, n2, n3, n4⟩ := H.o.names_keep hk (fun i hi => hi)
  have kd := H.o.kinds
  refine ⟨m, rfl, ⟨(blk_set H.o.blk 5 _).trans rfl, n2, n1 _ H.o.names, n3, OwnW.keeps H.o.moves hk (fun i hi e => ?_), n4, H.o.apart, H.o.maps, H.o.has⟩, Grows.refl w m, hk.mono (fun i _ e => .inl e)⟩
  have e2 : i = m.b := e
  have := kd.2.2.2.2 i hi
  rw [e2, kd.1] at this
  exact absurd this (by decide)
theorem cell_lt {w : World} {g o : Nat} {v : Value} (h : w.cell? ⟨g, o, none⟩ = some v) : g < w.heap.size := by
  by_cases hg : g < w.heap.size
  · exact hg
  · exfalso
    have e : w.heap[g]? = none := Array.getElem?_eq_none (by omega)
    simp [World.cell?, e] at h
section
variable {w0 w : World} {X : Nat → Option Obj} {b rb N : Nat} {s t : FSt}
theorem ha_create (h : HalfAt w0 X b rb s t w) (inv : Inv N s) (hN : N ≤ 900000000) (S : ByteArray) (hS : S.size ≤ 9223372036854775807) :
    Calls Tryz.prog 23 #[.pointer (some ⟨b, 0, none⟩), .string S] w fun e w' => e = .returned (.tuple #[.int .i64 (s.create S.data.toList).1, .int .i64 (s.create S.data.toList).2.1]) ∧ HalfAt w0 X b rb (s.create S.data.toList).2.2 t w' :=
  h.op1 fun m hb hi _ => by rw [← hb]; exact create_fs w m s N hi inv hN S hS
theorem hr_create (h : HalfAt w0 X b rb s t w) (inv : Inv N t) (hN : N ≤ 900000000) (S : ByteArray) (hS : S.size ≤ 9223372036854775807) :
    Calls Tryz.prog 44 #[.pointer (some ⟨rb, 0, none⟩), .string S] w fun e w' => e = .returned (.tuple #[.int .i64 (t.create S.data.toList).1, .int .i64 (t.create S.data.toList).2.1]) ∧ HalfAt w0 X b rb s (t.create S.data.toList).2.2 w' :=
  h.op2 fun m hb hi _ => by rw [← hb]; exact rcreate_fs w m t N hi inv hN S hS
theorem ha_open (h : HalfAt w0 X b rb s t w) (S : ByteArray) (hS : S.size ≤ 9223372036854775807) :
    Calls Tryz.prog 45 #[.pointer (some ⟨b, 0, none⟩), .string S] w fun e w' => e = .returned (.tuple #[.int .i64 (s.opened S.data.toList).1, .int .i64 (s.opened S.data.toList).2]) ∧ HalfAt w0 X b rb s t w' := by
  obtain ⟨m, hb, hi⟩ := h.fs
  rw [← hb]
  exact (open_fs w m s hi S hS).mono fun e w' ⟨he, hk⟩ => ⟨he, hb ▸ h.kept hk⟩
theorem hr_open (h : HalfAt w0 X b rb s t w) (inv : Inv N t) (S : ByteArray) (hS : S.size ≤ 9223372036854775807) :
    Calls Tryz.prog 46 #[.pointer (some ⟨rb, 0, none⟩), .string S] w fun e w' => e = .returned (.tuple #[.int .i64 (t.opened S.data.toList).1, .int .i64 (t.opened S.data.toList).2]) ∧ HalfAt w0 X b rb s t w' := by
  obtain ⟨m, hb, hi⟩ := h.rs
  rw [← hb]
  exact (ropen_fs w m t hi (by have := inv.ok.len; omega) S hS).mono fun e w' ⟨he, hk⟩ => ⟨he, hb ▸ h.kept hk⟩
theorem ha_rename (h : HalfAt w0 X b rb s t w) (inv : Inv N s) (hN : N ≤ 900000000) (S T : ByteArray) (hS : S.size ≤ 9223372036854775807) (hT : T.size ≤ 9223372036854775807) :
    Calls Tryz.prog 47 #[.pointer (some ⟨b, 0, none⟩), .string S, .string T] w fun e w' => e = .returned (.int .i64 (s.rename S.data.toList T.data.toList).1) ∧ HalfAt w0 X b rb (s.rename S.data.toList T.data.toList).2 t w' :=
  h.op1 fun m hb hi _ => by rw [← hb]; exact rename_fs w m s N hi inv hN S T hS hT
theorem hr_rename (h : HalfAt w0 X b rb s t w) (inv : Inv N t) (hN : N ≤ 900000000) (S T : ByteArray) (hS : S.size ≤ 9223372036854775807) (hT : T.size ≤ 9223372036854775807) :
    Calls Tryz.prog 48 #[.pointer (some ⟨rb, 0, none⟩), .string S, .string T] w fun e w' => e = .returned (.int .i64 (t.rename S.data.toList T.data.toList).1) ∧ HalfAt w0 X b rb s (t.rename S.data.toList T.data.toList).2 w' :=
  h.op2 fun m hb hi _ => by rw [← hb]; exact rrename_fs w m t N hi inv hN S T hS hT
theorem ha_remove (h : HalfAt w0 X b rb s t w) (inv : Inv N s) (hN : N ≤ 900000000) (S : ByteArray) (hS : S.size ≤ 9223372036854775807) :
    Calls Tryz.prog 49 #[.pointer (some ⟨b, 0, none⟩), .string S] w fun e w' => e = .returned (.int .i64 (s.remove S.data.toList).1) ∧ HalfAt w0 X b rb (s.remove S.data.toList).2 t w' :=
  h.op1 fun m hb hi _ => by rw [← hb]; exact remove_fs w m s N hi inv hN S hS
theorem hr_remove (h : HalfAt w0 X b rb s t w) (inv : Inv N t) (hN : N ≤ 900000000) (S : ByteArray) (hS : S.size ≤ 9223372036854775807) :
    Calls Tryz.prog 50 #[.pointer (some ⟨rb, 0, none⟩), .string S] w fun e w' => e = .returned (.int .i64 (t.remove S.data.toList).1) ∧ HalfAt w0 X b rb s (t.remove S.data.toList).2 w' :=
  h.op2 fun m hb hi _ => by rw [← hb]; exact rremove_fs w m t N hi inv hN S hS
theorem ha_syncdir (h : HalfAt w0 X b rb s t w) (inv : Inv N s) (hN : N ≤ 900000000) :
    Calls Tryz.prog 26 #[.pointer (some ⟨b, 0, none⟩)] w fun e w' => e = .returned (.int .i64 s.syncDir.1) ∧ HalfAt w0 X b rb s.syncDir.2 t w' :=
  h.op1 fun m hb hi _ => by rw [← hb]; exact syncdir_fs w m s N hi inv (by omega)
theorem hr_syncdir (h : HalfAt w0 X b rb s t w) (inv : Inv N t) (hN : N ≤ 900000000) :
    Calls Tryz.prog 51 #[.pointer (some ⟨rb, 0, none⟩)] w fun e w' => e = .returned (.int .i64 t.syncDir.1) ∧ HalfAt w0 X b rb s t.syncDir.2 w' :=
  h.op2 fun m hb hi _ => by rw [← hb]; exact rsyncdir_fs w m t N hi inv hN
theorem ha_arm (h : HalfAt w0 X b rb s t w) (n : Int) :
    Calls Tryz.prog 28 #[.pointer (some ⟨b, 0, none⟩), .int .i64 n] w fun e w' => e = .returned (.tuple #[]) ∧ HalfAt w0 X b rb (s.arm n) t w' :=
  h.op1 fun m hb hi _ => by rw [← hb]; exact (arm_fs w m s hi n).mono fun e w' ⟨he, hf, hk⟩ => ⟨he, m, rfl, hf, Grows.refl w m, hk.mono (fun i _ e => .inl e)⟩
theorem hr_arm (h : HalfAt w0 X b rb s t w) (n : Int) (hn : Is64 n) :
    Calls Tryz.prog 53 #[.pointer (some ⟨rb, 0, none⟩), .int .i64 n] w fun e w' => e = .returned (.tuple #[]) ∧ HalfAt w0 X b rb s (t.arm n) w' :=
  h.op2 fun m hb hi _ => by rw [← hb]; exact rarm_fs w m t hi n hn
theorem ha_setcap (h : HalfAt w0 X b rb s t w) (n : Int) :
    Calls Tryz.prog 54 #[.pointer (some ⟨b, 0, none⟩), .int .i64 n] w fun e w' => e = .returned (.int .i64 (s.setCap n).1) ∧ HalfAt w0 X b rb (s.setCap n).2 t w' :=
  h.op1 fun m hb hi _ => by rw [← hb]; exact setcap_fs w m s hi n
theorem hr_setcap (h : HalfAt w0 X b rb s t w) (n : Int) :
    Calls Tryz.prog 55 #[.pointer (some ⟨rb, 0, none⟩), .int .i64 n] w fun e w' => e = .returned (.int .i64 (t.setCap n).1) ∧ HalfAt w0 X b rb s (t.setCap n).2 w' :=
  h.op2 fun m hb hi _ => by rw [← hb]; exact rsetcap_fs w m t hi n
theorem ha_write (h : HalfAt w0 X b rb s t w) (inv : Inv N s) (hN : N ≤ 900000000) (n pos : Int) (hp : Is64 pos) (A : Option Addr) (cc : Nat) (q : List UInt8) (hq : Bts w (.slice A q.length cc) q) (hql : q.length ≤ 70368744177664) :
    Calls Tryz.prog 67 #[.pointer (some ⟨b, 0, none⟩), .int .i64 n, .int .i64 pos, .slice A q.length cc] w fun e w' => e = .returned (.int .i64 (s.write n pos q).1) ∧ HalfAt w0 X b rb (s.write n pos q).2 t w' :=
  h.op1 fun m hb hi _ => by rw [← hb]; exact write_fs w m s N hi inv (by omega) n pos hp.1 hp.2 A cc q hq hql
theorem hr_write (h : HalfAt w0 X b rb s t w) (inv : Inv N t) (hN : N ≤ 900000000) (n pos : Int) (hp : Is64 pos) (q : List UInt8) (hql : q.length ≤ 70368744177664) :
    Calls Tryz.prog 85 #[.pointer (some ⟨rb, 0, none⟩), .int .i64 n, .int .i64 pos, .string (sOf q)] w fun e w' => e = .returned (.int .i64 (t.write n pos q).1) ∧ HalfAt w0 X b rb s (t.write n pos q).2 w' :=
  h.op2 fun m hb hi _ => by rw [← hb]; exact rwrite_fs w m t N hi inv hN n pos hp.1 hp.2 q hql
theorem ha_append (h : HalfAt w0 X b rb s t w) (inv : Inv N s) (hN : N ≤ 900000000) (n : Int) (A : Option Addr) (cc : Nat) (q : List UInt8) (hq : Bts w (.slice A q.length cc) q) (hql : q.length ≤ 70368744177664) :
    Calls Tryz.prog 24 #[.pointer (some ⟨b, 0, none⟩), .int .i64 n, .slice A q.length cc] w fun e w' => e = .returned (.int .i64 (s.append n q).1) ∧ HalfAt w0 X b rb (s.append n q).2 t w' :=
  h.op1 fun m hb hi _ => by rw [← hb]; exact append_fs w m s N hi inv (by omega) n A cc q hq hql
theorem hr_append (h : HalfAt w0 X b rb s t w) (inv : Inv N t) (hN : N ≤ 900000000) (n : Int) (q : List UInt8) (hql : q.length ≤ 70368744177664) :
    Calls Tryz.prog 86 #[.pointer (some ⟨rb, 0, none⟩), .int .i64 n, .string (sOf q)] w fun e w' => e = .returned (.int .i64 (t.append n q).1) ∧ HalfAt w0 X b rb s (t.append n q).2 w' :=
  h.op2 fun m hb hi _ => by rw [← hb]; exact rappend_fs w m t N hi inv hN n q hql
theorem ha_cut (h : HalfAt w0 X b rb s t w) (inv : Inv N s) (hN : N ≤ 900000000) (n size : Int) (hp : Is64 size) :
    Calls Tryz.prog 87 #[.pointer (some ⟨b, 0, none⟩), .int .i64 n, .int .i64 size] w fun e w' => e = .returned (.int .i64 (s.cutAt n size).1) ∧ HalfAt w0 X b rb (s.cutAt n size).2 t w' :=
  h.op1 fun m hb hi _ => by rw [← hb]; exact cut_fs w m s N hi inv (by omega) n size hp.1 hp.2
theorem hr_cut (h : HalfAt w0 X b rb s t w) (inv : Inv N t) (hN : N ≤ 900000000) (n size : Int) (hp : Is64 size) :
    Calls Tryz.prog 88 #[.pointer (some ⟨rb, 0, none⟩), .int .i64 n, .int .i64 size] w fun e w' => e = .returned (.int .i64 (t.cutAt n size).1) ∧ HalfAt w0 X b rb s (t.cutAt n size).2 w' :=
  h.op2 fun m hb hi _ => by rw [← hb]; exact rcut_fs w m t N hi inv hN n size hp.1 hp.2
theorem ha_sync (h : HalfAt w0 X b rb s t w) (inv : Inv N s) (hN : N ≤ 900000000) (n : Int) :
    Calls Tryz.prog 25 #[.pointer (some ⟨b, 0, none⟩), .int .i64 n] w fun e w' => e = .returned (.int .i64 (s.sync n).1) ∧ HalfAt w0 X b rb (s.sync n).2 t w' :=
  h.op1 fun m hb hi _ => by rw [← hb]; exact sync_fs w m s N hi inv (by omega) n
theorem hr_sync (h : HalfAt w0 X b rb s t w) (inv : Inv N t) (hN : N ≤ 900000000) (n : Int) :
    Calls Tryz.prog 89 #[.pointer (some ⟨rb, 0, none⟩), .int .i64 n] w fun e w' => e = .returned (.int .i64 (t.sync n).1) ∧ HalfAt w0 X b rb s (t.sync n).2 w' :=
  h.op2 fun m hb hi _ => by rw [← hb]; exact rsync_fs w m t N hi inv hN n
theorem ha_read (h : HalfAt w0 X b rb s t w) (inv : Inv N s) (hN : N ≤ 900000000) (n pos most : Int) (hp : Is64 pos) (hm : Is64 most) :
    Calls Tryz.prog 9 #[.pointer (some ⟨b, 0, none⟩), .int .i64 n, .int .i64 pos, .int .i64 most] w fun e w' => ∃ A' c', e = .returned (.tuple #[.slice A' (s.read n pos most).1.length c', .int .i64 (s.read n pos most).2]) ∧
      OwnV w' 5 (.slice A' (s.read n pos most).1.length c') (bvs (s.read n pos most).1) ∧ Fresh w (.slice A' (s.read n pos most).1.length c') ∧ Keeps NoB w w' := by
  obtain ⟨m, hb, hi⟩ := h.fs
  rw [← hb]
  exact read_fs w m s N hi inv (by omega) n pos most hp.1 hp.2 hm.1 hm.2
theorem hr_read (h : HalfAt w0 X b rb s t w) (inv : Inv N t) (hN : N ≤ 900000000) (n pos most : Int) (hp : Is64 pos) (hm : Is64 most) :
    Calls Tryz.prog 63 #[.pointer (some ⟨rb, 0, none⟩), .int .i64 n, .int .i64 pos, .int .i64 most] w fun e w' => e = .returned (.tuple #[.string (sOf (t.read n pos most).1), .int .i64 (t.read n pos most).2]) ∧ Keeps NoB w w' := by
  obtain ⟨m, hb, hi⟩ := h.rs
  rw [← hb]
  exact rread_fs w m t N hi inv hN n pos most hp.1 hp.2 hm.1 hm.2
theorem ha_crash {w1 : World} (h : HalfAt w0 X b rb s t w1) (inv : Inv N s) (hN : N ≤ 900000000) (k : Keeps NoB w1 w) (dir : Int) (hd : Is64 dir) (A : Option Addr) (c : Nat) (l : List TornS) (hl : l.length ≤ 4611686018427387904) (hT : TRd w A l)
    (hA : ∀ g o sp, A = some ⟨g, o, sp⟩ → w1.heap.size ≤ g) (hbd : ∀ t ∈ l, Is64 t.writes ∧ Is64 t.bytes) :
    Calls Tryz.prog 8 #[.pointer (some ⟨b, 0, none⟩), .agg #[.int .i64 dir, .slice A l.length c]] w fun e w' => e = .returned (.tuple #[]) ∧ HalfAt w0 X b rb (s.crash dir l) t w' :=
  h.op1k k fun m hb hi ho => by
    rw [← hb]
    exact crash_fs w m s N hi inv hN dir hd.1 hd.2 A c l hl hT (fun g o sp e _ hm => by have := hA g o sp e; have := ho g hm; omega) hbd
theorem hr_crash (h : HalfAt w0 X b rb s t w) (inv : Inv N t) (hN : N ≤ 900000000) (dir : Int) (hd : Is64 dir) (A : Option Addr) (c : Nat) (l : List TornS) (hl : l.length ≤ 4611686018427387904) (hT : TRd w0 A l) (hbd : ∀ t ∈ l, Is64 t.writes ∧ Is64 t.bytes) :
    Calls Tryz.prog 52 #[.pointer (some ⟨rb, 0, none⟩), .agg #[.int .i64 dir, .slice A l.length c]] w fun e w' => e = .returned (.tuple #[]) ∧ HalfAt w0 X b rb s (t.crash dir l) w' :=
  h.op2 fun m hb hi ho => by
    rw [← hb]
    refine rcrash_fs w m t N hi inv hN dir hd.1 hd.2 A c l hl (hT.kept h.keeps) (fun g o sp e h0 hm => ?_) hbd
    obtain ⟨g', o', e', hc, _⟩ := hT 0 h0
    have h1 := ho g hm
    rw [e] at e'
    cases e'
    have hlt : g < w0.heap.size := cell_lt hc
    omega
end
end Go.Proofs.YtlhhcoijkjcneaaGreat
