/- A region that draws its order: one walk in the order of the text, though some operations yield values that differ from run to run (fresh memory). -/
import Derived.Test.YtdjamijbhaplgaaGreatGkaa
namespace Go.Proofs.YtdjamijbhaplgaaGreat
open Go.RowKit

/-- What is asked of an operation carried out in w: a value for which out holds, in a world that R allows. -/
def flowUpon (P : Program) (R : World → World → Prop) (w : World) (out : Value → World → Prop) : Result Next → Prop
  | .ok (.value u) w' => R w w' ∧ out u w'
  | .ok .skip w' => R w w' ∧ out undef w'
  | .ok (.enter f args) w' => Calls P f args w' fun e w'' => ∃ v, e = .returned v ∧ R w w'' ∧ out v w''
  | .ok (.row r args) w' => Rows P r args w' fun v w'' => R w w'' ∧ out v w''
  | _ => False
def flowAt (P : Program) (o : Oper) (a : Act) (R : World → World → Prop) (w : World) (out : Value → World → Prop) : Prop := flowUpon P R w out ((execOp a.eval o).run P w)

theorem wp_of_flow {P : Program} {R : World → World → Prop} {o : Oper} {a : Act} {K : Act → World → Prop} {Q : Exit → Act → World → Prop} {w : World} {out : Value → World → Prop} (h : ∀ v w', R w w' → out v w' → K (a.put o.dst v) w') (hh : flowAt P o a R w out) : o.wp P a w K Q := by
  unfold flowAt at hh
  unfold Oper.wp
  generalize (execOp a.eval o).run P w = r at *
  cases r with
  | ok n w' =>
    cases n <;> simp only [flowUpon] at hh <;> simp only [Oper.upon]
    case value u => exact h _ _ hh.1 hh.2
    case skip => exact h _ _ hh.1 hh.2
    case enter f args => exact hh.mono fun e w'' ⟨v, he, h1, h2⟩ => by subst he; exact h _ _ h1 h2
    case row r args => exact hh.mono fun v w'' ⟨h1, h2⟩ => h _ _ h1 h2
  | halt x w' => simp only [flowUpon] at hh

theorem flowAt_mono {P : Program} {R : World → World → Prop} {o : Oper} {a : Act} {w : World} {out out' : Value → World → Prop} (h : ∀ v w', out v w' → out' v w') (hh : flowAt P o a R w out) : flowAt P o a R w out' := by
  unfold flowAt at *
  generalize (execOp a.eval o).run P w = r at *
  cases r with
  | ok n w' =>
    cases n <;> simp only [flowUpon] at hh ⊢
    case value u => exact ⟨hh.1, h _ _ hh.2⟩
    case skip => exact ⟨hh.1, h _ _ hh.2⟩
    case enter f args => exact hh.mono fun e w'' ⟨v, he, h1, h2⟩ => ⟨v, he, h1, h _ _ h2⟩
    case row r args => exact hh.mono fun v w'' ⟨h1, h2⟩ => ⟨h1, h _ _ h2⟩
  | halt x w' => simp only [flowUpon] at hh

/-- Operation o waits for operation j. -/
def waits (o : Oper) (j : Nat) : Bool := o.after.any fun e => Region.binds .any e && e.on == j
def updF (F : Nat → Value → World → Prop) (k : Nat) (p : Value → World → Prop) : Nat → Value → World → Prop := fun j => if j = k then p else F j

section
variable {P : Program} {ops : Array Oper} {R : World → World → Prop} {w0 : World} {a0 : Act} {Qn : Act → World → Prop}

/-- The walk in the order of the text. The frame is told as a function of the values (s) that the flowing operations yield. -/
def wpFlow (P : Program) (ops : Array Oper) (R : World → World → Prop) (w0 : World) (Qn : Act → World → Prop) : List Oper → Nat → ((Nat → Value) → Act) → (Nat → Value → World → Prop) → Prop
  | [], _, A, F => ∀ s w, R w0 w → (∀ j, F j (s j) w) → Qn (A s) w
  | o :: rest, k, A, F =>
    ((∀ s, Region.wanted o (yielded ops (A s).tmps) = true) ∧
      ((∃ c, (∀ s w, R w0 w → (∀ j, waits o j = true → F j (s j) w) → flowAt P o (A s) R w fun v _ => v = c) ∧ wpFlow P ops R w0 Qn rest (k + 1) (fun s => (A s).put o.dst c) F) ∨
       (∃ p : Value → World → Prop, (∀ v w w', R w0 w → R w w' → p v w → p v w') ∧ (∀ s w, R w0 w → (∀ j, waits o j = true → F j (s j) w) → flowAt P o (A s) R w p) ∧
        wpFlow P ops R w0 Qn rest (k + 1) (fun s => (A s).put o.dst (s k)) (updF F k p)))) ∨
    ((∀ s, Region.wanted o (yielded ops (A s).tmps) = false) ∧ wpFlow P ops R w0 Qn rest (k + 1) (fun s => (A s).put o.dst undef) F)

def flowB (ops : Array Oper) : Bool := Region.noSelect ops && (List.range ops.size).all fun i => match ops[i]? with
  | none => true
  | some oi => (oi.after.all fun e => !Region.binds .any e || decide (e.on < i)) && (List.range ops.size).all fun j => i == j || match ops[j]? with
    | none => true
    | some oj => match oj.dst with
      | none => true
      | some d => oi.dst != some d && (!(oi.looksAt ops).contains d || waits oi j)

structure FlowOk (ops : Array Oper) : Prop where
  sel : Region.noSelect ops = true
  back : ∀ i o, ops[i]? = some o → ∀ e ∈ o.after, Region.binds .any e = true → e.on < i
  one : ∀ (i j : Nat) (oi oj : Oper) (t : Tmp), ops[i]? = some oi → ops[j]? = some oj → oi.dst = some t → oj.dst = some t → i = j
  look : ∀ (i j : Nat) (oi oj : Oper) (t : Tmp), ops[i]? = some oi → ops[j]? = some oj → i ≠ j → oj.dst = some t → t ∈ oi.looksAt ops → waits oi j = true

theorem flowB_ok (h : flowB ops = true) : FlowOk ops := by
  unfold flowB at h
  simp only [Bool.and_eq_true, List.all_eq_true, List.mem_range] at h
  obtain ⟨hs, h⟩ := h
  have hlt : ∀ {i : Nat} {o : Oper}, ops[i]? = some o → i < ops.size := fun hi => (Array.getElem?_eq_some_iff.1 hi).1
  have hp : ∀ (i j : Nat) (oi oj : Oper) (t : Tmp), ops[i]? = some oi → ops[j]? = some oj → i ≠ j → oj.dst = some t → oi.dst ≠ some t ∧ (t ∉ oi.looksAt ops ∨ waits oi j = true) := by
    intro i j oi oj t hi hj hne hd
    have := h i (hlt hi)
    simp only [hi, Bool.and_eq_true, List.all_eq_true, List.mem_range] at this
    have := this.2 j (hlt hj)
    simp only [hj, hd, Bool.or_eq_true, beq_iff_eq, hne, false_or, Bool.and_eq_true, bne_iff_ne, ne_eq, Bool.not_eq_true', List.contains_eq_mem, decide_eq_false_iff_not] at this
    exact this
  refine ⟨hs, fun i o hi e he hb => ?_, fun i j oi oj t hi hj h1 h2 => ?_, fun i j oi oj t hi hj hne hd ht => ?_⟩
  · have := h i (hlt hi)
    simp only [hi, Bool.and_eq_true, Array.all_eq_true_iff_forall_mem] at this
    have := this.1 e he
    simpa [hb] using this
  · exact Classical.byContradiction fun hne => (hp i j oi oj t hi hj hne h2).1 h1
  · exact (hp i j oi oj t hi hj hne hd).2.resolve_left (fun h => h ht)

/-- What the frame holds once the operations in D have come up with the values t. -/
structure Holds (ops : Array Oper) (a0 : Act) (D : Nat → Prop) (s : Nat → Value) (a : Act) : Prop where
  defers : a.defers = a0.defers
  size : a.tmps.size = a0.tmps.size
  put : ∀ (j : Nat) (o : Oper) (t : Tmp), ops[j]? = some o → o.dst = some t → D j → t < a0.tmps.size → a.tmps[t]? = some (s j)
  rest : ∀ t, (∀ (j : Nat) (o : Oper), ops[j]? = some o → o.dst = some t → ¬ D j) → a.tmps[t]? = a0.tmps[t]?

theorem Holds.start {s : Nat → Value} : Holds ops a0 (fun _ => False) s a0 := ⟨rfl, rfl, fun _ _ _ _ _ h => h.elim, fun _ _ => rfl⟩
theorem Holds.of_iff {D D' : Nat → Prop} {s s' : Nat → Value} {a : Act} (h : Holds ops a0 D s a) (hd : ∀ j, j < ops.size → (D j ↔ D' j)) (hs : ∀ j, D j → s j = s' j) : Holds ops a0 D' s' a := by
  have hlt : ∀ {i : Nat} {o : Oper}, ops[i]? = some o → i < ops.size := fun hi => (Array.getElem?_eq_some_iff.1 hi).1
  refine ⟨h.defers, h.size, fun j o t hj ht hD hlt' => ?_, fun t hr => h.rest t fun j o hj ht hD => hr j o hj ht ((hd j (hlt hj)).1 hD)⟩
  have hD' := (hd j (hlt hj)).2 hD
  rw [← hs j hD']
  exact h.put j o t hj ht hD' hlt'

theorem Holds.step (hok : FlowOk ops) {D : Nat → Prop} {s s' : Nat → Value} {a : Act} {i : Nat} {o : Oper} (h : Holds ops a0 D s a) (hi : ops[i]? = some o) (hn : ¬ D i) (hs : ∀ j, D j → s' j = s j) :
    Holds ops a0 (fun j => D j ∨ j = i) s' (a.put o.dst (s' i)) := by
  cases hd : o.dst with
  | none =>
    refine ⟨h.defers, h.size, fun j o' t hj ht hD hlt => ?_, fun t hr => h.rest t fun j o' hj ht hD => hr j o' hj ht (.inl hD)⟩
    rcases hD with hD | rfl
    · rw [hs j hD]; exact h.put j o' t hj ht hD hlt
    · rw [hi] at hj; cases hj; rw [hd] at ht; cases ht
  | some d =>
    refine ⟨h.defers, by simp [Act.put, h.size], fun j o' t hj ht hD hlt => ?_, fun t hr => ?_⟩
    · rcases hD with hD | rfl
      · have hne : d ≠ t := fun e => hn (by subst e; rw [hok.one i j o o' d hi hj hd ht]; exact hD)
        simp only [Act.put, Array.getElem?_setIfInBounds_ne hne]
        rw [hs j hD]; exact h.put j o' t hj ht hD hlt
      · rw [hi] at hj; cases hj; rw [hd] at ht; cases ht
        simp [Act.put, h.size, hlt]
    · have hne : d ≠ t := fun e => hr i o hi (by rw [hd, e]) (.inr rfl)
      simp only [Act.put, Array.getElem?_setIfInBounds_ne hne]
      exact h.rest t fun j o' hj ht hD => hr j o' hj ht (.inl hD)

theorem Holds.agree (hok : FlowOk ops) {D D' : Nat → Prop} {s s' : Nat → Value} {a a' : Act} (h : Holds ops a0 D s a) (h' : Holds ops a0 D' s' a') (t : Tmp)
    (hs : ∀ (j : Nat) (o : Oper), ops[j]? = some o → o.dst = some t → (D j ∧ D' j ∧ s j = s' j) ∨ (¬ D j ∧ ¬ D' j)) : a.tmps[t]? = a'.tmps[t]? := by
  by_cases hx : ∃ (j : Nat) (o : Oper), ops[j]? = some o ∧ o.dst = some t
  · obtain ⟨j, o, hj, ht⟩ := hx
    rcases hs j o hj ht with ⟨h1, h2, h3⟩ | ⟨h1, h2⟩
    · by_cases hlt : t < a0.tmps.size
      · rw [h.put j o t hj ht h1 hlt, h'.put j o t hj ht h2 hlt, h3]
      · have e1 : a.tmps.size ≤ t := by rw [h.size]; exact Nat.le_of_not_lt hlt
        have e2 : a'.tmps.size ≤ t := by rw [h'.size]; exact Nat.le_of_not_lt hlt
        rw [Array.getElem?_eq_none e1, Array.getElem?_eq_none e2]
    · rw [h.rest t fun k o' hk hk' => by rw [hok.one k j o' o t hk hj hk' ht]; exact h1, h'.rest t fun k o' hk hk' => by rw [hok.one k j o' o t hk hj hk' ht]; exact h2]
  · rw [h.rest t fun k o' hk hk' _ => hx ⟨k, o', hk, hk'⟩, h'.rest t fun k o' hk hk' _ => hx ⟨k, o', hk, hk'⟩]

theorem agree_op (hsel : Region.noSelect ops = true) {i : Nat} {o : Oper} (hi : ops[i]? = some o) {a a' : Act} (h : ∀ t ∈ o.looksAt ops, a.tmps[t]? = a'.tmps[t]?) :
    execOp a.eval o = execOp a'.eval o ∧ Region.wanted o (yielded ops a.tmps) = Region.wanted o (yielded ops a'.tmps) := by
  constructor
  · refine execOp_congr o (fun cs b => Region.noSelect_spec hsel i o cs b hi) fun x hx => ?_
    cases x with
    | tmp t =>
      have := h t (List.mem_append_left _ (List.mem_filterMap.2 ⟨.tmp t, by simpa using hx, rfl⟩))
      simp only [Act.eval, Array.getD_eq_getD_getElem?, this]
    | _ => rfl
  · unfold Region.wanted
    cases hg : o.guard with
    | none => rfl
    | some gw =>
      obtain ⟨g, want⟩ := gw
      have hy : yielded ops a.tmps g = yielded ops a'.tmps g := by
        unfold yielded
        cases ht : (ops[g]?).bind (·.dst) with
        | none => rfl
        | some t =>
          have := h t (by simp [Oper.looksAt, hg, ht])
          simp [this]
      simp only [hy]

/-- The frame in the order of the text. -/
def lexA (ops : Array Oper) (a0 : Act) (c : Nat → Option Value) (s : Nat → Value) : Nat → Act
  | 0 => a0
  | i + 1 => (lexA ops a0 c s i).put ((ops[i]?).bind (·.dst)) ((c i).getD (s i))
theorem lexA_congr {c c' : Nat → Option Value} {s : Nat → Value} : ∀ {k : Nat}, (∀ j, j < k → c j = c' j) → lexA ops a0 c s k = lexA ops a0 c' s k
  | 0, _ => rfl
  | k + 1, h => by simp only [lexA]; rw [lexA_congr fun j hj => h j (by omega), h k (by omega)]

theorem lexA_holds (hok : FlowOk ops) {c : Nat → Option Value} {s : Nat → Value} : ∀ {k : Nat}, k ≤ ops.size → Holds ops a0 (· < k) (fun j => (c j).getD (s j)) (lexA ops a0 c s k)
  | 0, _ => (Holds.start (s := s)).of_iff (fun j _ => ⟨False.elim, fun h => absurd h (by omega)⟩) (fun _ h => False.elim h)
  | k + 1, h => by
    have ih := lexA_holds hok (c := c) (s := s) (k := k) (by omega)
    have hk : ops[k]? = some ops[k] := Array.getElem?_eq_getElem (by omega)
    have := ih.step hok hk (by omega) (s' := fun j => (c j).getD (s j)) (fun _ _ => rfl)
    have he : lexA ops a0 c s (k + 1) = (lexA ops a0 c s k).put (ops[k]).dst ((c k).getD (s k)) := by simp only [lexA, hk, Option.bind_some]
    rw [he]
    exact this.of_iff (fun j _ => by omega) (fun _ _ => rfl)

/-- What the walk shows of operation number i. -/
def FlowOb (P : Program) (ops : Array Oper) (R : World → World → Prop) (w0 : World) (a0 : Act) (c : Nat → Option Value) (F : Nat → Value → World → Prop) (i : Nat) (o : Oper) : Prop :=
  (∀ v w w', R w0 w → R w w' → F i v w → F i v w') ∧
  (((∀ s, Region.wanted o (yielded ops (lexA ops a0 c s i).tmps) = true) ∧ ∀ s w, R w0 w → (∀ j, waits o j = true → F j (s j) w) → flowAt P o (lexA ops a0 c s i) R w fun v w' => (∀ x, c i = some x → v = x) ∧ F i v w') ∨
   ((∀ s, Region.wanted o (yielded ops (lexA ops a0 c s i).tmps) = false) ∧ (c i = some undef ∧ F i = fun _ _ => True)))

theorem flow_extract : ∀ (l : List Oper) (k : Nat) (c : Nat → Option Value) (F : Nat → Value → World → Prop), (∀ j, l[j]? = ops[k + j]?) → k + l.length = ops.size → (∀ j, k ≤ j → F j = fun _ _ => True) →
    wpFlow P ops R w0 Qn l k (fun s => lexA ops a0 c s k) F →
    ∃ c' F', (∀ j, j < k → c' j = c j ∧ F' j = F j) ∧ (∀ j, ops.size ≤ j → F' j = fun _ _ => True) ∧ (∀ i o, k ≤ i → ops[i]? = some o → FlowOb P ops R w0 a0 c' F' i o) ∧
      ∀ s w, R w0 w → (∀ j, F' j (s j) w) → Qn (lexA ops a0 c' s ops.size) w := by
  intro l
  induction l with
  | nil =>
    intro k c F hl hn hF h
    have hk : k = ops.size := by simpa using hn
    subst hk
    refine ⟨c, F, fun _ _ => ⟨rfl, rfl⟩, fun j hj => hF j hj, fun i o hi ho => ?_, h⟩
    rw [Array.getElem?_eq_none (by omega)] at ho
    cases ho
  | cons o rest ih =>
    intro k c F hl hn hF h
    have h0 : ops[k]? = some o := by simpa using (hl 0).symm
    have hl' : ∀ j, rest[j]? = ops[k + 1 + j]? := fun j => by have := hl (j + 1); simpa [Nat.add_assoc, Nat.add_comm 1 j] using this
    have hn' : k + 1 + rest.length = ops.size := by simp at hn; omega
    -- one step: the constant or the flowing value x, what is known of it p
    have step : ∀ (x : Option Value) (p : Value → World → Prop) (F1 : Nat → Value → World → Prop), F1 k = p → (∀ j, j ≠ k → F1 j = F j) → (∀ v w w', R w0 w → R w w' → p v w → p v w') →
        wpFlow P ops R w0 Qn rest (k + 1) (fun s => (lexA ops a0 c s k).put o.dst (x.getD (s k))) F1 →
        (((∀ s, Region.wanted o (yielded ops (lexA ops a0 c s k).tmps) = true) ∧ ∀ s w, R w0 w → (∀ j, waits o j = true → F j (s j) w) → flowAt P o (lexA ops a0 c s k) R w fun v w' => (∀ y, x = some y → v = y) ∧ p v w') ∨
         ((∀ s, Region.wanted o (yielded ops (lexA ops a0 c s k).tmps) = false) ∧ (x = some undef ∧ p = fun _ _ => True))) →
        ∃ c' F', (∀ j, j < k → c' j = c j ∧ F' j = F j) ∧ (∀ j, ops.size ≤ j → F' j = fun _ _ => True) ∧ (∀ i o, k ≤ i → ops[i]? = some o → FlowOb P ops R w0 a0 c' F' i o) ∧
          ∀ s w, R w0 w → (∀ j, F' j (s j) w) → Qn (lexA ops a0 c' s ops.size) w := by
      intro x p F1 hFk hFo hst hwalk hob
      let c1 : Nat → Option Value := fun j => if j = k then x else c j
      have hc1k : c1 k = x := if_pos rfl
      have hc1 : ∀ j, j < k → c1 j = c j := fun j hj => if_neg (by omega)
      have he : (fun s => (lexA ops a0 c s k).put o.dst (x.getD (s k))) = fun s => lexA ops a0 c1 s (k + 1) := funext fun s => by
        simp only [lexA, h0, Option.bind_some, hc1k]
        rw [lexA_congr fun j hj => (hc1 j hj).symm]
      rw [he] at hwalk
      obtain ⟨c', F', hlt, hge, hall, hend⟩ := ih (k + 1) c1 F1 hl' hn' (fun j hj => by rw [hFo j (by omega)]; exact hF j (by omega)) hwalk
      refine ⟨c', F', fun j hj => ⟨by rw [(hlt j (by omega)).1, hc1 j hj], by rw [(hlt j (by omega)).2, hFo j (by omega)]⟩, hge, fun i o' hi ho' => ?_, hend⟩
      by_cases hik : i = k
      · subst hik
        rw [h0] at ho'
        cases ho'
        have e1 : c' i = x := by rw [(hlt i (by omega)).1, hc1k]
        have e2 : F' i = p := by rw [(hlt i (by omega)).2, hFk]
        have e3 : ∀ s, lexA ops a0 c' s i = lexA ops a0 c s i := fun s => lexA_congr fun j hj => by rw [(hlt j (by omega)).1, hc1 j hj]
        refine ⟨by rw [e2]; exact hst, ?_⟩
        simp only [e1, e2, e3]
        refine hob.imp (fun ⟨hw, hf⟩ => ⟨hw, fun s w hR hh => hf s w hR fun j hj => ?_⟩) id
        by_cases hji : j < i
        · have := hh j hj
          rw [(hlt j (by omega)).2, hFo j (by omega)] at this
          exact this
        · rw [hF j (by omega)]
          trivial
      · exact hall i o' (by omega) ho'
    rcases h with ⟨hw, ⟨x, hx, hrest⟩ | ⟨p, hst, hx, hrest⟩⟩ | ⟨hw, hrest⟩
    · exact step (some x) (fun _ _ => True) F (hF k (Nat.le_refl _)) (fun _ _ => rfl) (fun _ _ _ _ _ _ => trivial) hrest
        (.inl ⟨hw, fun s w hR hh => flowAt_mono (fun v w' hv => ⟨fun y hy => by cases hy; exact hv, trivial⟩) (hx s w hR hh)⟩)
    · exact step none p (updF F k p) (by simp [updF]) (fun j hj => by simp [updF, hj]) hst hrest
        (.inl ⟨hw, fun s w hR hh => flowAt_mono (fun v w' hv => ⟨fun _ hy => (Option.some_ne_none _ hy.symm).elim, hv⟩) (hx s w hR hh)⟩)
    · exact step (some undef) (fun _ _ => True) F (hF k (Nat.le_refl _)) (fun _ _ => rfl) (fun _ _ _ _ _ _ => trivial) hrest (.inr ⟨hw, rfl, rfl⟩)

theorem filter_lt {p q : Nat → Bool} (h : ∀ j, p j = true → q j = true) : ∀ (l : List Nat), (l.filter p).length ≤ (l.filter q).length ∧ ∀ i, i ∈ l → q i = true → p i = false → (l.filter p).length < (l.filter q).length
  | [] => ⟨Nat.le_refl _, fun i hi => by cases hi⟩
  | x :: l => by
    obtain ⟨h1, h2⟩ := filter_lt h l
    have hx := h x
    by_cases hpx : p x = true
    · rw [List.filter_cons_of_pos hpx, List.filter_cons_of_pos (hx hpx)]
      refine ⟨by simp only [List.length_cons]; omega, fun i hi hqi hpi => ?_⟩
      rcases List.mem_cons.1 hi with rfl | hi
      · rw [hpx] at hpi; cases hpi
      · have := h2 i hi hqi hpi
        simp only [List.length_cons]; omega
    · rw [List.filter_cons_of_neg hpx]
      by_cases hqx : q x = true
      · rw [List.filter_cons_of_pos hqx]
        simp only [List.length_cons]
        exact ⟨by omega, fun _ _ _ _ => by omega⟩
      · rw [List.filter_cons_of_neg hqx]
        refine ⟨h1, fun i hi hqi hpi => ?_⟩
        rcases List.mem_cons.1 hi with rfl | hi
        · exact absurd hqi hqx
        · exact h2 i hi hqi hpi

theorem flow_run (hok : FlowOk ops) (hR0 : ∀ w, R w w) (hR : ∀ w1 w2 w3, R w1 w2 → R w2 w3 → R w1 w3) {Q : Exit → Act → World → Prop} {c : Nat → Option Value} {F : Nat → Value → World → Prop}
    (hge : ∀ j, ops.size ≤ j → F j = fun _ _ => True) (hob : ∀ i o, ops[i]? = some o → FlowOb P ops R w0 a0 c F i o)
    (hend : ∀ s w, R w0 w → (∀ j, F j (s j) w) → Q .normal (lexA ops a0 c s ops.size) w) :
    ∀ (fuel : Nat) (listed : Array Bool) (a : Act) (w : World) (s : Nat → Value), listed.size = ops.size → R w0 w → Holds ops a0 (fun j => listed.getD j false = true) s a →
      (∀ j, listed.getD j false = true → (∀ x, c j = some x → s j = x) ∧ F j (s j) w) → ((List.range ops.size).filter fun j => !listed.getD j true).length ≤ fuel → wpAny P .any ops Q fuel listed a w := by
  intro fuel
  have hlt : ∀ {i : Nat} {o : Oper}, ops[i]? = some o → i < ops.size := fun hi => (Array.getElem?_eq_some_iff.1 hi).1
  have hgd : ∀ {listed : Array Bool} {j : Nat}, listed.size = ops.size → j < ops.size → listed.getD j true = listed.getD j false := fun {listed j} hs hj => by
    have : listed[j]? = some (listed[j]'(by omega)) := Array.getElem?_eq_getElem (by omega)
    simp only [Array.getD_eq_getD_getElem?, this, Option.getD_some]
  -- all have come up
  have hdone : ∀ (listed : Array Bool) (a : Act) (w : World) (s : Nat → Value), listed.size = ops.size → R w0 w → Holds ops a0 (fun j => listed.getD j false = true) s a →
      (∀ j, listed.getD j false = true → (∀ x, c j = some x → s j = x) ∧ F j (s j) w) → Region.ready .any ops listed = [] → Q .normal a w := by
    intro listed a w s hs hRw hH hk hr
    have hall : ∀ n j, j < n → j < ops.size → listed.getD j false = true := by
      intro n
      induction n with
      | zero => intro j hj; omega
      | succ n ih =>
        intro j hj hjs
        cases hd : listed.getD j false with
        | true => rfl
        | false =>
          have hj' : ops[j]? = some ops[j] := Array.getElem?_eq_getElem hjs
          have : j ∈ Region.ready .any ops listed := mem_ready.2 ⟨by rw [hgd hs hjs]; exact hd, _, hj', fun e he hb => ih e.on (by have := hok.back j _ hj' e he hb; omega) (by have := hok.back j _ hj' e he hb; omega)⟩
          rw [hr] at this
          cases this
    have hall' : ∀ j, j < ops.size → listed.getD j false = true := fun j hj => hall (j + 1) j (by omega) hj
    have hL := lexA_holds hok (a0 := a0) (c := c) (s := s) (k := ops.size) (Nat.le_refl _)
    have ha : a = lexA ops a0 c s ops.size := by
      have ht : a.tmps = (lexA ops a0 c s ops.size).tmps := Array.ext_getElem? fun t => Holds.agree hok hH hL t fun j o hj _ => .inl ⟨hall' j (hlt hj), hlt hj, by
        cases hcj : c j with
        | none => rfl
        | some x => exact (hk j (hall' j (hlt hj))).1 x hcj⟩
      have hdf : a.defers = (lexA ops a0 c s ops.size).defers := by rw [hH.defers, hL.defers]
      generalize lexA ops a0 c s ops.size = b at *
      cases a; cases b
      simp only at ht hdf
      rw [ht, hdf]
    rw [ha]
    refine hend s w hRw fun j => ?_
    by_cases hj : j < ops.size
    · exact (hk j (hall' j hj)).2
    · rw [hge j (by omega)]; trivial
  induction fuel with
  | zero =>
    intro listed a w s hs hRw hH hk hc
    have hr : Region.ready .any ops listed = [] := by
      cases hr : Region.ready .any ops listed with
      | nil => rfl
      | cons i rest =>
        have hi : i ∈ Region.ready .any ops listed := by rw [hr]; exact List.mem_cons_self
        obtain ⟨hu, o, ho, _⟩ := mem_ready.1 hi
        have : i ∈ (List.range ops.size).filter fun j => !listed.getD j true := List.mem_filter.2 ⟨List.mem_range.2 (hlt ho), by rw [hu]; rfl⟩
        have := List.length_pos_of_mem this
        omega
    exact ⟨hr, hdone listed a w s hs hRw hH hk hr⟩
  | succ fuel ih =>
    intro listed a w s hs hRw hH hk hc
    refine ⟨fun hr => hdone listed a w s hs hRw hH hk hr, fun i hi => ?_⟩
    obtain ⟨hu, o, ho, hw⟩ := mem_ready.1 hi
    have hu' : ¬ listed.getD i false = true := by rw [← hgd hs (hlt ho), hu]; simp
    obtain ⟨hst, hO⟩ := hob i o ho
    have hL := lexA_holds hok (a0 := a0) (c := c) (s := s) (k := i) (Nat.le_of_lt (hlt ho))
    have hwt : ∀ j, waits o j = true → listed.getD j false = true := fun j hj => by
      obtain ⟨e, he, hb⟩ := Array.any_eq_true'.1 hj
      simp only [Bool.and_eq_true, beq_iff_eq] at hb
      rw [← hb.2]
      exact hw e he hb.1
    have hag := agree_op hok.sel ho (a := a) (a' := lexA ops a0 c s i) fun t ht => Holds.agree hok hH hL t fun j oj hj hjt => by
      by_cases hji : j = i
      · subst hji; exact .inr ⟨hu', by omega⟩
      · have hwj := hok.look i j o oj t ho hj (Ne.symm hji) hjt ht
        have hl := hwt j hwj
        refine .inl ⟨hl, ?_, ?_⟩
        · obtain ⟨e, he, hb⟩ := Array.any_eq_true'.1 hwj
          simp only [Bool.and_eq_true, beq_iff_eq] at hb
          have := hok.back i o ho e he hb.1
          omega
        · cases hcj : c j with
          | none => rfl
          | some x => exact (hk j hl).1 x hcj
    -- what follows an operation's value
    have next : ∀ (v : Value) (w' : World), R w w' → (∀ x, c i = some x → v = x) → F i v w' → wpAny P .any ops Q fuel (listed.setIfInBounds i true) (a.put o.dst v) w' := by
      intro v w' hRR hv hFv
      let s' : Nat → Value := fun j => if j = i then v else s j
      have hs'i : s' i = v := if_pos rfl
      have hs' : ∀ j, j ≠ i → s' j = s j := fun j hj => if_neg hj
      have hset : ∀ j, j < ops.size → ((listed.setIfInBounds i true).getD j false = true ↔ (listed.getD j false = true ∨ j = i)) := fun j hj => by
        by_cases hji : j = i
        · subst hji; simp [hs, hj]
        · rw [getD_set_ne false (Ne.symm hji)]; simp [hji]
      have hstep := hH.step hok ho hu' (s' := s') (fun j hj => hs' j fun e => hu' (by rw [← e]; exact hj))
      rw [hs'i] at hstep
      refine ih (listed.setIfInBounds i true) (a.put o.dst v) w' s' (by simp [hs]) (hR _ _ _ hRw hRR) (hstep.of_iff (fun j hj => (hset j hj).symm) (fun _ _ => rfl)) (fun j hj => ?_) ?_
      · by_cases hji : j = i
        · subst hji; rw [hs'i]; exact ⟨hv, hFv⟩
        · rw [getD_set_ne false (Ne.symm hji)] at hj
          rw [hs' j hji]
          have hjs : j < ops.size := by
            rcases Nat.lt_or_ge j ops.size with h | h
            · exact h
            · simp [Array.getElem?_eq_none (by omega : listed.size ≤ j)] at hj
          exact ⟨(hk j hj).1, (hob j _ (Array.getElem?_eq_getElem hjs)).1 _ _ _ hRw hRR (hk j hj).2⟩
      · have := (filter_lt (p := fun j => !(listed.setIfInBounds i true).getD j true) (q := fun j => !listed.getD j true) (fun j hj => by
          by_cases hji : j = i
          · subst hji; simpa using hu
          · rwa [getD_set_ne true (Ne.symm hji)] at hj) (List.range ops.size)).2 i (List.mem_range.2 (hlt ho)) (by simpa using hu) (by simp [hs, hlt ho])
        omega
    unfold wpOp
    simp only [ho]
    rw [hag.2]
    rcases hO with ⟨hwa, hf⟩ | ⟨hwa, hcu, hFt⟩
    · simp only [hwa s, if_true]
      refine .inl (wp_of_flow (R := R) (out := fun v w' => (∀ x, c i = some x → v = x) ∧ F i v w') (fun v w' h1 h2 => next v w' h1 h2.1 h2.2) ?_)
      have := hf s w hRw fun j hj => (hk j (hwt j hj)).2
      unfold flowAt at *
      rw [hag.1]
      exact this
    · simp only [hwa s, Bool.false_eq_true, if_false]
      exact next undef w (hR0 w) (fun x hx => by rw [hcu] at hx; cases hx; rfl) (by rw [hFt]; trivial)

/-- One walk serves every order. -/
theorem wp_region_flow {id : Nat} {Q : Exit → Act → World → Prop} {w : World} (hR0 : ∀ w, R w w) (hR : ∀ w1 w2 w3, R w1 w2 → R w2 w3 → R w1 w3) (hm : P.follows .mixedOrders = true) (hB : flowB ops = true) (hw : R w0 { w with drawn := w.drawn + 1 })
    (h : wpFlow P ops R w0 (Q .normal) ops.toList 0 (fun _ => a0) (fun _ _ _ => True)) : (Code.region id ops true).wp P Q a0 w := by
  have hok := flowB_ok hB
  obtain ⟨c, F, _, hge, hob, hend⟩ := flow_extract ops.toList 0 (fun _ => none) (fun _ _ _ => True) (by simp) (by simp) (fun _ _ => rfl) h
  have hfalse : ∀ j, (Array.replicate ops.size false).getD j false = false := fun j => by
    rw [Array.getD_eq_getD_getElem?, Array.getElem?_replicate]
    split <;> rfl
  refine wp_region_any hm (flow_run hok hR0 hR hge (fun i o ho => hob i o (Nat.zero_le _) ho) hend ops.size _ a0 _ (fun _ => undef) (by simp) hw ?_ (fun j hj => ?_) ?_)
  · exact (Holds.start (s := fun _ => undef)).of_iff (fun j hj => ⟨False.elim, fun h => by rw [hfalse j] at h; cases h⟩) (fun _ h => False.elim h)
  · rw [hfalse j] at hj; cases hj
  · exact Nat.le_trans (List.length_filter_le _ _) (by simp)

/-- The same, its operations written out. -/
theorem wp_region_flow_lit {id : Nat} {Q : Exit → Act → World → Prop} {w : World} {l : List Oper} (hR0 : ∀ w, R w w) (hR : ∀ w1 w2 w3, R w1 w2 → R w2 w3 → R w1 w3) (hm : P.follows .mixedOrders = true) (hB : flowB l.toArray = true) (hw : R w0 w.drew)
    (h : wpFlow P l.toArray R w0 (Q .normal) l 0 (fun _ => a0) (fun _ _ _ => True)) : (Code.region id l.toArray true).wp P Q a0 w :=
  wp_region_flow hR0 hR hm hB hw (by simpa using h)

section
variable {A : (Nat → Value) → Act} {F : Nat → Value → World → Prop} {o : Oper} {rest : List Oper} {k : Nat}
theorem flow_nil (h : ∀ s w, R w0 w → (∀ j, F j (s j) w) → Qn (A s) w) : wpFlow P ops R w0 Qn [] k A F := h
theorem flow_skip (hw : ∀ s, Region.wanted o (yielded ops (A s).tmps) = false) (h : ∀ K : ((Nat → Value) → Act) → Prop, (∀ A, wpFlow P ops R w0 Qn rest (k + 1) A F → K A) → K (fun s => (A s).put o.dst undef)) : wpFlow P ops R w0 Qn (o :: rest) k A F :=
  .inr ⟨hw, h (fun A => wpFlow P ops R w0 Qn rest (k + 1) A F) (fun _ h => h)⟩
theorem flow_const (c : Value) (hw : ∀ s, Region.wanted o (yielded ops (A s).tmps) = true)
    (hc : ∀ s w, R w0 w → (∀ j, waits o j = true → F j (s j) w) → flowAt P o (A s) R w fun v _ => v = c)
    (h : ∀ K : ((Nat → Value) → Act) → Prop, (∀ A, wpFlow P ops R w0 Qn rest (k + 1) A F → K A) → K (fun s => (A s).put o.dst c)) : wpFlow P ops R w0 Qn (o :: rest) k A F :=
  .inl ⟨hw, .inl ⟨c, hc, h (fun A => wpFlow P ops R w0 Qn rest (k + 1) A F) (fun _ h => h)⟩⟩
theorem flow_any (p : Value → World → Prop) (hw : ∀ s, Region.wanted o (yielded ops (A s).tmps) = true)
    (hp : ∀ v w w', R w0 w → R w w' → p v w → p v w')
    (hc : ∀ s w, R w0 w → (∀ j, waits o j = true → F j (s j) w) → flowAt P o (A s) R w p)
    (h : ∀ K : ((Nat → Value) → Act) → Prop, (∀ A, wpFlow P ops R w0 Qn rest (k + 1) A (updF F k p) → K A) → K (fun s => (A s).put o.dst (s k))) : wpFlow P ops R w0 Qn (o :: rest) k A F :=
  .inl ⟨hw, .inr ⟨p, hp, hc, h (fun A => wpFlow P ops R w0 Qn rest (k + 1) A (updF F k p)) (fun _ h => h)⟩⟩
end

end
end Go.Proofs.YtdjamijbhaplgaaGreat
