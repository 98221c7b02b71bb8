/- A region that draws its order and holds a chain of operations that turn the world in their own order: one walk in the order of the text. -/
import Derived.Test.YtdjamijbhaplgaaGreatFlow
namespace Go.Proofs.YtdjamijbhaplgaaGreat
open Go.RowKit

/-- The number of an operation in the chain. -/
def phOf (chain : List Nat) (i : Nat) : Option Nat := if chain.contains i then some (chain.idxOf i) else none
def nextP (q : Option Nat) (n : Nat) : Nat := match q with | some _ => n + 1 | none => n
def chainB (ops : Array Oper) (chain : List Nat) : Bool := chain.all (fun i => decide (i < ops.size)) && decide chain.Nodup && (List.range chain.length).all fun c => decide (chain.length ≤ c + 1) || (match ops[chain.getD (c + 1) 0]? with | some o => waits o (chain.getD c 0) | none => false)
structure ChainOk (ops : Array Oper) (ph : Nat → Option Nat) (tot : Nat) : Prop where
  one : ∀ i j c, ph i = some c → ph j = some c → i = j
  prev : ∀ i o c, ops[i]? = some o → ph i = some (c + 1) → ∃ j, ph j = some c ∧ waits o j = true
  ex : ∀ c, c < tot → ∃ i o, ops[i]? = some o ∧ ph i = some c
  lt : ∀ i c, ph i = some c → c < tot
theorem phOf_some {chain : List Nat} {i c : Nat} (h : phOf chain i = some c) : ∃ hc : c < chain.length, chain[c] = i := by
  unfold phOf at h
  split at h
  · rename_i hm
    have hm' : i ∈ chain := by simpa using hm
    cases h
    exact ⟨List.idxOf_lt_length_of_mem hm', List.getElem_idxOf _⟩
  · cases h
theorem phOf_at {chain : List Nat} (hn : chain.Nodup) {c : Nat} (hc : c < chain.length) : phOf chain chain[c] = some c := by
  unfold phOf
  rw [if_pos (by simp), hn.idxOf_getElem c hc]
theorem chainB_ok {ops : Array Oper} {chain : List Nat} (h : chainB ops chain = true) : ChainOk ops (phOf chain) chain.length := by
  unfold chainB at h
  simp only [Bool.and_eq_true, List.all_eq_true, decide_eq_true_eq, List.mem_range, Bool.or_eq_true] at h
  obtain ⟨⟨h1, h2⟩, h3⟩ := h
  refine ⟨fun i j c hi hj => ?_, fun i o c ho hi => ?_, fun c hc => ?_, fun i c hi => (phOf_some hi).1⟩
  · obtain ⟨hc, rfl⟩ := phOf_some hi
    obtain ⟨_, rfl⟩ := phOf_some hj
    rfl
  · obtain ⟨hc, hi2⟩ := phOf_some hi
    have h4 := (h3 c (by omega)).resolve_left (by omega)
    have e1 : chain.getD (c + 1) 0 = i := by rw [List.getD_eq_getElem?_getD, List.getElem?_eq_getElem hc]; exact hi2
    have e2 : chain.getD c 0 = chain[c]'(by omega) := by rw [List.getD_eq_getElem?_getD, List.getElem?_eq_getElem (by omega)]; rfl
    rw [e1, ho, e2] at h4
    exact ⟨_, phOf_at h2 (by omega), h4⟩
  · have hlt := h1 _ (List.getElem_mem hc)
    exact ⟨chain[c], _, Array.getElem?_eq_getElem hlt, phOf_at h2 hc⟩

section
variable {P : Program} {ops : Array Oper} {R : World → World → Prop} {J : Nat → World → Prop} {ph : Nat → Option Nat} {tot : Nat} {a0 : Act} {Qn : Act → World → Prop}

def wpChain (P : Program) (ops : Array Oper) (R : World → World → Prop) (J : Nat → World → Prop) (ph : Nat → Option Nat) (tot : Nat) (Qn : Act → World → Prop) : List Oper → Nat → ((Nat → Value) → Act) → (Nat → Value → World → Prop) → Prop
  | [], _, A, F => ∀ s w, J tot w → (∀ j, F j (s j) w) → Qn (A s) w
  | o :: rest, k, A, F =>
    ((∀ s, Region.wanted o (yielded ops (A s).tmps) = true) ∧
      ((∃ c, (∀ s w n, (∀ q, ph k = some q → n = q) → J n w → (∀ j, waits o j = true → F j (s j) w) → flowAt P o (A s) R w fun v w' => v = c ∧ J (nextP (ph k) n) w') ∧ wpChain P ops R J ph tot Qn rest (k + 1) (fun s => (A s).put o.dst c) F) ∨
       (∃ p : Value → World → Prop, (∀ v w w', R w w' → p v w → p v w') ∧ (∀ s w n, (∀ q, ph k = some q → n = q) → J n w → (∀ j, waits o j = true → F j (s j) w) → flowAt P o (A s) R w fun v w' => p v w' ∧ J (nextP (ph k) n) w') ∧
        wpChain P ops R J ph tot Qn rest (k + 1) (fun s => (A s).put o.dst (s k)) (updF F k p)))) ∨
    ((∀ s, Region.wanted o (yielded ops (A s).tmps) = false) ∧ ph k = none ∧ wpChain P ops R J ph tot Qn rest (k + 1) (fun s => (A s).put o.dst undef) F)

/-- What the walk shows of operation number i. -/
def ChainOb (P : Program) (ops : Array Oper) (R : World → World → Prop) (J : Nat → World → Prop) (ph : Nat → Option Nat) (a0 : Act) (c : Nat → Option Value) (F : Nat → Value → World → Prop) (i : Nat) (o : Oper) : Prop :=
  (∀ v w w', R w w' → F i v w → F i v w') ∧
  (((∀ s, Region.wanted o (yielded ops (lexA ops a0 c s i).tmps) = true) ∧ ∀ s w n, (∀ q, ph i = some q → n = q) → J n w → (∀ j, waits o j = true → F j (s j) w) → flowAt P o (lexA ops a0 c s i) R w fun v w' => ((∀ x, c i = some x → v = x) ∧ F i v w') ∧ J (nextP (ph i) n) w') ∨
   ((∀ s, Region.wanted o (yielded ops (lexA ops a0 c s i).tmps) = false) ∧ ph i = none ∧ (c i = some undef ∧ F i = fun _ _ => True)))

theorem chain_extract : ∀ (l : List Oper) (k : Nat) (c : Nat → Option Value) (F : Nat → Value → World → Prop), (∀ j, l[j]? = ops[k + j]?) → k + l.length = ops.size → (∀ j, k ≤ j → F j = fun _ _ => True) →
    wpChain P ops R J ph tot Qn l k (fun s => lexA ops a0 c s k) F →
    ∃ c' F', (∀ j, j < k → c' j = c j ∧ F' j = F j) ∧ (∀ j, ops.size ≤ j → F' j = fun _ _ => True) ∧ (∀ i o, k ≤ i → ops[i]? = some o → ChainOb P ops R J ph a0 c' F' i o) ∧
      ∀ s w, J tot w → (∀ j, F' j (s j) w) → Qn (lexA ops a0 c' s ops.size) w := by
  intro l
  induction l with
  | nil =>
    intro k c F hl hn hF h
    have hk : k = ops.size := by simpa using hn
    subst hk
    refine ⟨c, F, fun _ _ => ⟨rfl, rfl⟩, fun j hj => hF j hj, fun i o hi ho => ?_, h⟩
    rw [Array.getElem?_eq_none (by omega)] at ho
    cases ho
  | cons o rest ih =>
    intro k c F hl hn hF h
    have h0 : ops[k]? = some o := by simpa using (hl 0).symm
    have hl' : ∀ j, rest[j]? = ops[k + 1 + j]? := fun j => by have := hl (j + 1); simpa [Nat.add_assoc, Nat.add_comm 1 j] using this
    have hn' : k + 1 + rest.length = ops.size := by simp at hn; omega
    -- one step: the constant or the flowing value x, what is known of it p
    have step : ∀ (x : Option Value) (p : Value → World → Prop) (F1 : Nat → Value → World → Prop), F1 k = p → (∀ j, j ≠ k → F1 j = F j) → (∀ v w w', R w w' → p v w → p v w') →
        wpChain P ops R J ph tot Qn rest (k + 1) (fun s => (lexA ops a0 c s k).put o.dst (x.getD (s k))) F1 →
        (((∀ s, Region.wanted o (yielded ops (lexA ops a0 c s k).tmps) = true) ∧ ∀ s w n, (∀ q, ph k = some q → n = q) → J n w → (∀ j, waits o j = true → F j (s j) w) → flowAt P o (lexA ops a0 c s k) R w fun v w' => ((∀ y, x = some y → v = y) ∧ p v w') ∧ J (nextP (ph k) n) w') ∨
         ((∀ s, Region.wanted o (yielded ops (lexA ops a0 c s k).tmps) = false) ∧ ph k = none ∧ (x = some undef ∧ p = fun _ _ => True))) →
        ∃ c' F', (∀ j, j < k → c' j = c j ∧ F' j = F j) ∧ (∀ j, ops.size ≤ j → F' j = fun _ _ => True) ∧ (∀ i o, k ≤ i → ops[i]? = some o → ChainOb P ops R J ph a0 c' F' i o) ∧
          ∀ s w, J tot w → (∀ j, F' j (s j) w) → Qn (lexA ops a0 c' s ops.size) w := by
      intro x p F1 hFk hFo hst hwalk hob
      let c1 : Nat → Option Value := fun j => if j = k then x else c j
      have hc1k : c1 k = x := if_pos rfl
      have hc1 : ∀ j, j < k → c1 j = c j := fun j hj => if_neg (by omega)
      have he : (fun s => (lexA ops a0 c s k).put o.dst (x.getD (s k))) = fun s => lexA ops a0 c1 s (k + 1) := funext fun s => by
        simp only [lexA, h0, Option.bind_some, hc1k]
        rw [lexA_congr fun j hj => (hc1 j hj).symm]
      rw [he] at hwalk
      obtain ⟨c', F', hlt, hge, hall, hend⟩ := ih (k + 1) c1 F1 hl' hn' (fun j hj => by rw [hFo j (by omega)]; exact hF j (by omega)) hwalk
      refine ⟨c', F', fun j hj => ⟨by rw [(hlt j (by omega)).1, hc1 j hj], by rw [(hlt j (by omega)).2, hFo j (by omega)]⟩, hge, fun i o' hi ho' => ?_, hend⟩
      by_cases hik : i = k
      · subst hik
        rw [h0] at ho'
        cases ho'
        have e1 : c' i = x := by rw [(hlt i (by omega)).1, hc1k]
        have e2 : F' i = p := by rw [(hlt i (by omega)).2, hFk]
        have e3 : ∀ s, lexA ops a0 c' s i = lexA ops a0 c s i := fun s => lexA_congr fun j hj => by rw [(hlt j (by omega)).1, hc1 j hj]
        refine ⟨by rw [e2]; exact hst, ?_⟩
        simp only [e1, e2, e3]
        refine hob.imp (fun ⟨hw, hf⟩ => ⟨hw, fun s w n hq hR hh => hf s w n hq hR fun j hj => ?_⟩) id
        by_cases hji : j < i
        · have := hh j hj
          rw [(hlt j (by omega)).2, hFo j (by omega)] at this
          exact this
        · rw [hF j (by omega)]
          trivial
      · exact hall i o' (by omega) ho'
    rcases h with ⟨hw, ⟨x, hx, hrest⟩ | ⟨p, hst, hx, hrest⟩⟩ | ⟨hw, hph, hrest⟩
    · exact step (some x) (fun _ _ => True) F (hF k (Nat.le_refl _)) (fun _ _ => rfl) (fun _ _ _ _ _ => trivial) hrest
        (.inl ⟨hw, fun s w n hq hR hh => flowAt_mono (fun v w' hv => ⟨⟨fun y hy => by cases hy; exact hv.1, trivial⟩, hv.2⟩) (hx s w n hq hR hh)⟩)
    · exact step none p (updF F k p) (by simp [updF]) (fun j hj => by simp [updF, hj]) hst hrest
        (.inl ⟨hw, fun s w n hq hR hh => flowAt_mono (fun v w' hv => ⟨⟨fun _ hy => (Option.some_ne_none _ hy.symm).elim, hv.1⟩, hv.2⟩) (hx s w n hq hR hh)⟩)
    · exact step (some undef) (fun _ _ => True) F (hF k (Nat.le_refl _)) (fun _ _ => rfl) (fun _ _ _ _ _ => trivial) hrest (.inr ⟨hw, hph, rfl, rfl⟩)

theorem chain_run (hok : FlowOk ops) (hch : ChainOk ops ph tot) (hR0 : ∀ w, R w w) {Q : Exit → Act → World → Prop} {c : Nat → Option Value} {F : Nat → Value → World → Prop}
    (hge : ∀ j, ops.size ≤ j → F j = fun _ _ => True) (hob : ∀ i o, ops[i]? = some o → ChainOb P ops R J ph a0 c F i o)
    (hend : ∀ s w, J tot w → (∀ j, F j (s j) w) → Q .normal (lexA ops a0 c s ops.size) w) :
    ∀ (fuel : Nat) (listed : Array Bool) (a : Act) (w : World) (s : Nat → Value), listed.size = ops.size → (∃ n, n ≤ tot ∧ J n w ∧ ∀ i c, ph i = some c → (listed.getD i false = true ↔ c < n)) → Holds ops a0 (fun j => listed.getD j false = true) s a →
      (∀ j, listed.getD j false = true → (∀ x, c j = some x → s j = x) ∧ F j (s j) w) → ((List.range ops.size).filter fun j => !listed.getD j true).length ≤ fuel → wpAny P .any ops Q fuel listed a w := by
  intro fuel
  have hlt : ∀ {i : Nat} {o : Oper}, ops[i]? = some o → i < ops.size := fun hi => (Array.getElem?_eq_some_iff.1 hi).1
  have hgd : ∀ {listed : Array Bool} {j : Nat}, listed.size = ops.size → j < ops.size → listed.getD j true = listed.getD j false := fun {listed j} hs hj => by
    have : listed[j]? = some (listed[j]'(by omega)) := Array.getElem?_eq_getElem (by omega)
    simp only [Array.getD_eq_getD_getElem?, this, Option.getD_some]
  -- all have come up
  have hdone : ∀ (listed : Array Bool) (a : Act) (w : World) (s : Nat → Value), listed.size = ops.size → (∃ n, n ≤ tot ∧ J n w ∧ ∀ i c, ph i = some c → (listed.getD i false = true ↔ c < n)) → Holds ops a0 (fun j => listed.getD j false = true) s a →
      (∀ j, listed.getD j false = true → (∀ x, c j = some x → s j = x) ∧ F j (s j) w) → Region.ready .any ops listed = [] → Q .normal a w := by
    intro listed a w s hs hRw hH hk hr
    have hall : ∀ n j, j < n → j < ops.size → listed.getD j false = true := by
      intro n
      induction n with
      | zero => intro j hj; omega
      | succ n ih =>
        intro j hj hjs
        cases hd : listed.getD j false with
        | true => rfl
        | false =>
          have hj' : ops[j]? = some ops[j] := Array.getElem?_eq_getElem hjs
          have : j ∈ Region.ready .any ops listed := mem_ready.2 ⟨by rw [hgd hs hjs]; exact hd, _, hj', fun e he hb => ih e.on (by have := hok.back j _ hj' e he hb; omega) (by have := hok.back j _ hj' e he hb; omega)⟩
          rw [hr] at this
          cases this
    have hall' : ∀ j, j < ops.size → listed.getD j false = true := fun j hj => hall (j + 1) j (by omega) hj
    have hL := lexA_holds hok (a0 := a0) (c := c) (s := s) (k := ops.size) (Nat.le_refl _)
    have ha : a = lexA ops a0 c s ops.size := by
      have ht : a.tmps = (lexA ops a0 c s ops.size).tmps := Array.ext_getElem? fun t => Holds.agree hok hH hL t fun j o hj _ => .inl ⟨hall' j (hlt hj), hlt hj, by
        cases hcj : c j with
        | none => rfl
        | some x => exact (hk j (hall' j (hlt hj))).1 x hcj⟩
      have hdf : a.defers = (lexA ops a0 c s ops.size).defers := by rw [hH.defers, hL.defers]
      generalize lexA ops a0 c s ops.size = b at *
      cases a; cases b
      simp only at ht hdf
      rw [ht, hdf]
    rw [ha]
    have hJ : J tot w := by
      obtain ⟨n, hn, hJn, hpre⟩ := hRw
      have : n = tot := by
        rcases Nat.lt_or_ge n tot with hlt' | hge'
        · obtain ⟨i, o, ho, hi⟩ := hch.ex n hlt'
          have := (hpre i n hi).1 (hall' i (hlt ho))
          omega
        · omega
      exact this ▸ hJn
    refine hend s w hJ fun j => ?_
    by_cases hj : j < ops.size
    · exact (hk j (hall' j hj)).2
    · rw [hge j (by omega)]; trivial
  induction fuel with
  | zero =>
    intro listed a w s hs hRw hH hk hc
    have hr : Region.ready .any ops listed = [] := by
      cases hr : Region.ready .any ops listed with
      | nil => rfl
      | cons i rest =>
        have hi : i ∈ Region.ready .any ops listed := by rw [hr]; exact List.mem_cons_self
        obtain ⟨hu, o, ho, _⟩ := mem_ready.1 hi
        have : i ∈ (List.range ops.size).filter fun j => !listed.getD j true := List.mem_filter.2 ⟨List.mem_range.2 (hlt ho), by rw [hu]; rfl⟩
        have := List.length_pos_of_mem this
        omega
    exact ⟨hr, hdone listed a w s hs hRw hH hk hr⟩
  | succ fuel ih =>
    intro listed a w s hs hRw hH hk hc
    refine ⟨fun hr => hdone listed a w s hs hRw hH hk hr, fun i hi => ?_⟩
    obtain ⟨hu, o, ho, hw⟩ := mem_ready.1 hi
    have hu' : ¬ listed.getD i false = true := by rw [← hgd hs (hlt ho), hu]; simp
    obtain ⟨hst, hO⟩ := hob i o ho
    have hL := lexA_holds hok (a0 := a0) (c := c) (s := s) (k := i) (Nat.le_of_lt (hlt ho))
    have hwt : ∀ j, waits o j = true → listed.getD j false = true := fun j hj => by
      obtain ⟨e, he, hb⟩ := Array.any_eq_true'.1 hj
      simp only [Bool.and_eq_true, beq_iff_eq] at hb
      rw [← hb.2]
      exact hw e he hb.1
    have hag := agree_op hok.sel ho (a := a) (a' := lexA ops a0 c s i) fun t ht => Holds.agree hok hH hL t fun j oj hj hjt => by
      by_cases hji : j = i
      · subst hji; exact .inr ⟨hu', by omega⟩
      · have hwj := hok.look i j o oj t ho hj (Ne.symm hji) hjt ht
        have hl := hwt j hwj
        refine .inl ⟨hl, ?_, ?_⟩
        · obtain ⟨e, he, hb⟩ := Array.any_eq_true'.1 hwj
          simp only [Bool.and_eq_true, beq_iff_eq] at hb
          have := hok.back i o ho e he hb.1
          omega
        · cases hcj : c j with
          | none => rfl
          | some x => exact (hk j hl).1 x hcj
    -- what follows an operation's value
    obtain ⟨n, hn, hJn, hpre⟩ := hRw
    have hph : ∀ q, ph i = some q → n = q := fun q hq => by
      have h1 : ¬ q < n := fun h => hu' ((hpre i q hq).2 h)
      cases q with
      | zero => omega
      | succ q =>
        obtain ⟨j, hj, hwj⟩ := hch.prev i o q ho hq
        have h2 := (hpre j q hj).1 (hwt j hwj)
        omega
    have next : ∀ (v : Value) (w' : World), R w w' → (∀ x, c i = some x → v = x) → F i v w' → J (nextP (ph i) n) w' → wpAny P .any ops Q fuel (listed.setIfInBounds i true) (a.put o.dst v) w' := by
      intro v w' hRR hv hFv hJ'
      let s' : Nat → Value := fun j => if j = i then v else s j
      have hs'i : s' i = v := if_pos rfl
      have hs' : ∀ j, j ≠ i → s' j = s j := fun j hj => if_neg hj
      have hset : ∀ j, j < ops.size → ((listed.setIfInBounds i true).getD j false = true ↔ (listed.getD j false = true ∨ j = i)) := fun j hj => by
        by_cases hji : j = i
        · subst hji; simp [hs, hj]
        · rw [getD_set_ne false (Ne.symm hji)]; simp [hji]
      have hstep := hH.step hok ho hu' (s' := s') (fun j hj => hs' j fun e => hu' (by rw [← e]; exact hj))
      rw [hs'i] at hstep
      have hpre' : ∃ n, n ≤ tot ∧ J n w' ∧ ∀ i' c, ph i' = some c → ((listed.setIfInBounds i true).getD i' false = true ↔ c < n) := by
        refine ⟨nextP (ph i) n, ?_, hJ', fun i' q hi' => ?_⟩
        · cases hp : ph i with
          | none => exact hn
          | some q => have := hch.lt i q hp; have := hph q hp; show n + 1 ≤ tot; omega
        · by_cases hii : i' = i
          · subst hii
            have h2 := hph q hi'
            rw [hi']
            have h3 : (listed.setIfInBounds i' true).getD i' false = true := (hset i' (hlt ho)).2 (.inr rfl)
            simp only [h3, true_iff]
            show q < n + 1
            omega
          · rw [getD_set_ne false (fun e => hii e.symm), hpre i' q hi']
            cases hp : ph i with
            | none => exact Iff.rfl
            | some q' =>
              have h2 := hph q' hp
              have h3 : q ≠ q' := fun e => hii (hch.one i' i q hi' (e ▸ hp))
              show q < n ↔ q < n + 1
              omega
      refine ih (listed.setIfInBounds i true) (a.put o.dst v) w' s' (by simp [hs]) hpre' (hstep.of_iff (fun j hj => (hset j hj).symm) (fun _ _ => rfl)) (fun j hj => ?_) ?_
      · by_cases hji : j = i
        · subst hji; rw [hs'i]; exact ⟨hv, hFv⟩
        · rw [getD_set_ne false (Ne.symm hji)] at hj
          rw [hs' j hji]
          have hjs : j < ops.size := by
            rcases Nat.lt_or_ge j ops.size with h | h
            · exact h
            · simp [Array.getElem?_eq_none (by omega : listed.size ≤ j)] at hj
          exact ⟨(hk j hj).1, (hob j _ (Array.getElem?_eq_getElem hjs)).1 _ _ _ hRR (hk j hj).2⟩
      · have := (filter_lt (p := fun j => !(listed.setIfInBounds i true).getD j true) (q := fun j => !listed.getD j true) (fun j hj => by
          by_cases hji : j = i
          · subst hji; simpa using hu
          · rwa [getD_set_ne true (Ne.symm hji)] at hj) (List.range ops.size)).2 i (List.mem_range.2 (hlt ho)) (by simpa using hu) (by simp [hs, hlt ho])
        omega
    unfold wpOp
    simp only [ho]
    rw [hag.2]
    rcases hO with ⟨hwa, hf⟩ | ⟨hwa, hpn, hcu, hFt⟩
    · simp only [hwa s, if_true]
      refine .inl (wp_of_flow (R := R) (out := fun v w' => ((∀ x, c i = some x → v = x) ∧ F i v w') ∧ J (nextP (ph i) n) w') (fun v w' h1 h2 => next v w' h1 h2.1.1 h2.1.2 h2.2) ?_)
      have := hf s w n hph hJn fun j hj => (hk j (hwt j hj)).2
      unfold flowAt at *
      rw [hag.1]
      exact this
    · simp only [hwa s, Bool.false_eq_true, if_false]
      exact next undef w (hR0 w) (fun x hx => by rw [hcu] at hx; cases hx; rfl) (by rw [hFt]; trivial) (by rw [hpn]; exact hJn)

/-- One walk serves every order. -/
theorem wp_region_chain {id : Nat} {Q : Exit → Act → World → Prop} {w : World} {l : List Oper} (chain : List Nat) (hR0 : ∀ w, R w w) (hm : P.follows .mixedOrders = true) (hB : flowB l.toArray = true) (hC : chainB l.toArray chain = true) (hw : J 0 w.drew)
    (h : wpChain P l.toArray R J (phOf chain) chain.length (Q .normal) l 0 (fun _ => a0) (fun _ _ _ => True)) : (Code.region id l.toArray true).wp P Q a0 w := by
  have hok := flowB_ok hB
  have hch := chainB_ok hC
  obtain ⟨c, F, _, hge, hob, hend⟩ := chain_extract (ops := l.toArray) l 0 (fun _ => none) (fun _ _ _ => True) (by simp) (by simp) (fun _ _ => rfl) h
  have hfalse : ∀ j, (Array.replicate l.toArray.size false).getD j false = false := fun j => by
    rw [Array.getD_eq_getD_getElem?, Array.getElem?_replicate]
    split <;> rfl
  refine wp_region_any hm (chain_run hok hch hR0 hge (fun i o ho => hob i o (Nat.zero_le _) ho) hend l.toArray.size _ a0 _ (fun _ => undef) (by simp) ⟨0, Nat.zero_le _, hw, fun i c _ => by rw [hfalse i]; simp⟩ ?_ (fun j hj => ?_) ?_)
  · exact (Holds.start (s := fun _ => undef)).of_iff (fun j hj => ⟨False.elim, fun h => by rw [hfalse j] at h; cases h⟩) (fun _ h => False.elim h)
  · rw [hfalse j] at hj; cases hj
  · exact Nat.le_trans (List.length_filter_le _ _) (by simp)

section
variable {A : (Nat → Value) → Act} {F : Nat → Value → World → Prop} {o : Oper} {rest : List Oper} {k : Nat}
theorem chain_nil (h : ∀ s w, J tot w → (∀ j, F j (s j) w) → Qn (A s) w) : wpChain P ops R J ph tot Qn [] k A F := h
theorem chain_skip (hw : ∀ s, Region.wanted o (yielded ops (A s).tmps) = false) (hp : ph k = none) (h : ∀ K : ((Nat → Value) → Act) → Prop, (∀ A, wpChain P ops R J ph tot Qn rest (k + 1) A F → K A) → K (fun s => (A s).put o.dst undef)) : wpChain P ops R J ph tot Qn (o :: rest) k A F :=
  .inr ⟨hw, hp, h (fun A => wpChain P ops R J ph tot Qn rest (k + 1) A F) (fun _ h => h)⟩
/-- An operation that is not of the chain. -/
theorem chain_const (c : Value) (hw : ∀ s, Region.wanted o (yielded ops (A s).tmps) = true) (hp : ph k = none)
    (hc : ∀ s w n, J n w → (∀ j, waits o j = true → F j (s j) w) → flowAt P o (A s) R w fun v w' => v = c ∧ J n w')
    (h : ∀ K : ((Nat → Value) → Act) → Prop, (∀ A, wpChain P ops R J ph tot Qn rest (k + 1) A F → K A) → K (fun s => (A s).put o.dst c)) : wpChain P ops R J ph tot Qn (o :: rest) k A F :=
  .inl ⟨hw, .inl ⟨c, fun s w n _ hJ hF => by rw [hp]; exact hc s w n hJ hF, h (fun A => wpChain P ops R J ph tot Qn rest (k + 1) A F) (fun _ h => h)⟩⟩
theorem chain_any (p : Value → World → Prop) (hw : ∀ s, Region.wanted o (yielded ops (A s).tmps) = true) (hp : ph k = none)
    (hst : ∀ v w w', R w w' → p v w → p v w')
    (hc : ∀ s w n, J n w → (∀ j, waits o j = true → F j (s j) w) → flowAt P o (A s) R w fun v w' => p v w' ∧ J n w')
    (h : ∀ K : ((Nat → Value) → Act) → Prop, (∀ A, wpChain P ops R J ph tot Qn rest (k + 1) A (updF F k p) → K A) → K (fun s => (A s).put o.dst (s k))) : wpChain P ops R J ph tot Qn (o :: rest) k A F :=
  .inl ⟨hw, .inr ⟨p, hst, fun s w n _ hJ hF => by rw [hp]; exact hc s w n hJ hF, h (fun A => wpChain P ops R J ph tot Qn rest (k + 1) A (updF F k p)) (fun _ h => h)⟩⟩
/-- The chain's number q. -/
theorem chain_step (q : Nat) (c : Value) (hw : ∀ s, Region.wanted o (yielded ops (A s).tmps) = true) (hp : ph k = some q)
    (hc : ∀ s w, J q w → (∀ j, waits o j = true → F j (s j) w) → flowAt P o (A s) R w fun v w' => v = c ∧ J (q + 1) w')
    (h : ∀ K : ((Nat → Value) → Act) → Prop, (∀ A, wpChain P ops R J ph tot Qn rest (k + 1) A F → K A) → K (fun s => (A s).put o.dst c)) : wpChain P ops R J ph tot Qn (o :: rest) k A F :=
  .inl ⟨hw, .inl ⟨c, fun s w n hq hJ hF => by
    have := hq q hp
    subst this
    rw [hp]
    exact hc s w hJ hF, h (fun A => wpChain P ops R J ph tot Qn rest (k + 1) A F) (fun _ h => h)⟩⟩
theorem chain_step_any (q : Nat) (p : Value → World → Prop) (hw : ∀ s, Region.wanted o (yielded ops (A s).tmps) = true) (hp : ph k = some q)
    (hst : ∀ v w w', R w w' → p v w → p v w')
    (hc : ∀ s w, J q w → (∀ j, waits o j = true → F j (s j) w) → flowAt P o (A s) R w fun v w' => p v w' ∧ J (q + 1) w')
    (h : ∀ K : ((Nat → Value) → Act) → Prop, (∀ A, wpChain P ops R J ph tot Qn rest (k + 1) A (updF F k p) → K A) → K (fun s => (A s).put o.dst (s k))) : wpChain P ops R J ph tot Qn (o :: rest) k A F :=
  .inl ⟨hw, .inr ⟨p, hst, fun s w n hq hJ hF => by
    have := hq q hp
    subst this
    rw [hp]
    exact hc s w hJ hF, h (fun A => wpChain P ops R J ph tot Qn rest (k + 1) A (updF F k p)) (fun _ h => h)⟩⟩
end
end
end Go.Proofs.YtdjamijbhaplgaaGreat
