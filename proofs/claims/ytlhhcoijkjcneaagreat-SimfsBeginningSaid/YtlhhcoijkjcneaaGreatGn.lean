/- simfs: a range over the files. -/
import Derived.Deep.RegionHeld3
import Derived.Deep.RegionLaw
import Derived.Deep.DeepCutAuto
import Derived.Test.YtlhhcoijkjcneaaGreatSimCl
import Derived.Test.YtlhhcoijkjcneaaGreatSimY
namespace Go.Proofs.YtlhhcoijkjcneaaGreat
open Go.RowKit Go.Maps Go.Lib

/-- The range over the map b that holds the files g, by the iterator r: left tells which numbers are still to come. -/
def RangeF (w : World) (b r N : Nat) (g : Nat → Option Nat) (left : Nat → Bool) : Prop :=
  ∃ D n lf cnt, w.ranges Tryz.prog 3 ptrR b r n D lf cnt ∧ n ≤ N ∧ (∀ k : Nat, D.atKey (.int .i64 k) .nil = match g k with | some fb => .lit (.int .u64 (fb : Nat)) | none => .nil) ∧
    (∀ kl, Maps.has D kl = true → ∃ k : Nat, kl = .int .i64 k ∧ (g k).isSome ∧ k ≤ 4611686018427387904) ∧ (∀ k : Nat, (g k).isSome → Maps.has D (.int .i64 k) = true) ∧ ∀ k : Nat, left k = lf (.int .i64 k)
theorem RangeF.keeps {F : Nat → Prop} {w w' : World} {b r N : Nat} {g : Nat → Option Nat} {left : Nat → Bool} (h : RangeF w b r N g left) (k : Keeps F w w') (hb : ¬ F b) (hr : ¬ F r) : RangeF w' b r N g left := by
  obtain ⟨D, n, lf, cnt, ⟨es, clock, since, seen, c0, h1, h2, h3, h4, h5, h6⟩, h7⟩ := h
  exact ⟨D, n, lf, cnt, ⟨es, clock, since, seen, c0, k.obj h1 hb, h2, h3, h4, k.obj h5 hr, h6⟩, h7⟩
theorem RangeF.left_keeps {F : Nat → Prop} {w w' : World} {b r N : Nat} {g : Nat → Option Nat} {left : Nat → Bool} (h : RangeF w b r N g left) (k : Keeps F w w') (hb : ¬ F b) (hr : ¬ F r) : w'.rangeLeft b r = w.rangeLeft b r := by
  obtain ⟨D, n, lf, cnt, ⟨es, clock, since, seen, c0, h1, h2, h3, h4, h5, h6⟩, h7⟩ := h
  have e1 := k.obj h1 hb
  have e2 := k.obj h5 hr
  unfold World.rangeLeft
  rw [e1, e2, h1, h5]
theorem RangeF.left_le {w : World} {b r N : Nat} {g : Nat → Option Nat} {left : Nat → Bool} (h : RangeF w b r N g left) : w.rangeLeft b r ≤ N := by
  obtain ⟨D, n, lf, cnt, hr, hn, _⟩ := h
  rw [hr.left_eq]
  obtain ⟨es, clock, since, seen, c0, h1, h2, h3, h4, h5, h6, h7, _⟩ := hr
  refine Nat.le_trans ?_ hn
  rw [← h7]
  refine Nat.le_trans ?_ h3
  unfold leftOf
  exact Array.size_filter_le
section
variable {w : World} {ops : Array Oper} {rest : List Oper} {o : Oper} {a : Act} {Q : Exit → Act → World → Prop}
theorem wpList_range_files (hg : o.guard = none) (m : Operand) (hop : o.op = Op.range 76 m) {b N : Nat} {g : Nat → Option Nat} (hm : a.eval m = .map (some b)) (h : MapF w b N g)
    (hK : ∀ w', RangeF w' b w.heap.size N g (fun k => (g k).isSome) → Keeps NoB w w' → w'.heap.size = w.heap.size + 1 → wpList Tryz.prog ops Q rest (a.put o.dst (.pointer (some ⟨w.heap.size, 0, none⟩))) w') :
    wpList Tryz.prog ops Q (o :: rest) a w := by
  obtain ⟨D, n, hown, hn, hr, hs1, hs2⟩ := h
  refine wpList_range_own w hg m _ hop _ _ keyI Tryz.underlying76 ptrR b _ D hm hown fun w' h1 h2 h3 => hK w' ⟨D, n, _, _, h1, hn, hr, hs1, hs2, fun k => ?_⟩ (Keeps.of_grown h2 (fun _ e => by cases e)) h3
  show (g k).isSome = Maps.has D (.int .i64 (k : Int))
  cases hk : (g k).isSome with
  | true => exact (hs2 k hk).symm
  | false =>
    cases hh : Maps.has D (.int .i64 (k : Int)) with
    | false => rfl
    | true =>
      obtain ⟨j, e, hj, _⟩ := hs1 _ hh
      have : k = j := Int.ofNat.inj (Lit.int.inj e).2
      subst this
      rw [hk] at hj; cases hj
set_option maxRecDepth 100000 in
theorem wpList_next_files (hg : o.guard = none) (it : Operand) (hop : o.op = Op.next it false) {b r N : Nat} {g : Nat → Option Nat} {left : Nat → Bool} (hit : a.eval it = .pointer (some ⟨r, 0, none⟩)) (h : RangeF w b r N g left)
    (hDone : (∀ k, left k = false) → wpList Tryz.prog ops Q rest (a.put o.dst (.tuple #[.bool false])) w)
    (hMore : ∀ (k fb : Nat) (w' : World), k ≤ 4611686018427387904 → g k = some fb → left k = true → RangeF w' b r N g (fun j => left j && j != k) →
      Keeps (OneB r) w w' → w'.rangeLeft b r < w.rangeLeft b r → (Instr.entry (.pointer (some ⟨r, 0, none⟩))).run Tryz.prog w' = .ok (.tuple #[.int .i64 (k : Nat), .pointer (some ⟨fb, 0, none⟩)]) w' → wpList Tryz.prog ops Q rest (a.put o.dst (.tuple #[.bool true, .int .i64 (k : Nat), .pointer (some ⟨fb, 0, none⟩)])) w') :
    wpList Tryz.prog ops Q (o :: rest) a w := by
  obtain ⟨D, n, lf, cnt, hrg, hn, hr, hs1, hs2, hl⟩ := h
  refine wpList_next_ranges w hg it hop _ keyI ptrR (Value.int .i64) Value.pointer (fun key kl hk => by obtain ⟨x, rfl, _⟩ := Maps.keyOf_int_inv Tryz.underlying3 hk; exact ⟨x, rfl⟩)
    (fun v y hv => by rcases ptrR_inv hv with ⟨rfl, _⟩ | ⟨fb, rfl, _⟩ <;> exact ⟨_, rfl⟩)
    b r _ D lf cnt hit hrg (fun _ h0 => hDone fun k => by rw [hl, h0]) (fun x c kl y w' cnt' hk hlk hv hat hrg' hlt hgr hsz hen => ?_)
  obtain ⟨x', ex, rfl, _⟩ := Maps.keyOf_int_inv Tryz.underlying3 hk
  cases ex
  have hhas := has_true_of_atKey hat
  obtain ⟨k, ek, hgk, hk62⟩ := hs1 _ hhas
  have hxk : x = (k : Int) := (Lit.int.inj ek).2
  subst hxk
  have h1 := hat .nil
  rw [hr k] at h1
  obtain ⟨fb, hfb⟩ := Option.isSome_iff_exists.1 hgk
  rw [hfb] at h1
  rcases ptrR_inv hv with ⟨_, hy⟩ | ⟨fb', hc, hy⟩
  · rw [hy] at h1; cases h1
  · rw [hy] at h1
    injection h1 with h1
    injection h1 with _ h1
    have : fb = fb' := Int.ofNat.inj h1
    subst this
    injection hc with hc
    subst hc
    refine hMore k fb w' hk62 hfb (by rw [hl]; exact hlk) ⟨D, n, _, _, hrg', hn, hr, hs1, hs2, fun j => ?_⟩ (Keeps.of_grown hgr (fun b' hb _ => by cases hb; rfl)) (by rw [hrg'.left_eq, hrg.left_eq]; exact hlt) hen
    have hsk : (Lit.int .i64 (j : Int)).sameKey (.int .i64 (k : Int)) = decide (j = k) := by
      by_cases hjk : j = k
      · subst hjk; rw [decide_eq_true rfl]; unfold Lit.sameKey; simp
      · have : ¬ (j : Int) = (k : Int) := by omega
        rw [decide_eq_false hjk]; unfold Lit.sameKey; simp [this]
    show (left j && j != k) = (lf (.int .i64 (j : Int)) && !(Lit.int .i64 (j : Int)).sameKey (.int .i64 (k : Int)))
    rw [hl, hsk]
    by_cases hjk : j = k
    · rw [decide_eq_true hjk, hjk]; simp
    · rw [decide_eq_false hjk]; simp [hjk]
end
end Go.Proofs.YtlhhcoijkjcneaaGreat
namespace Go.Proofs.YtlhhcoijkjcneaaGreat
open Go.RowKit Go.Maps Go.Lib

/-- Blocks but mc stay; rows of bytes stay. -/
def CpR (mc : Nat) (w w' : World) : Prop := Keeps (OneB mc) w w' ∧ KeepU w w'
theorem CpR.refl (mc : Nat) (w : World) : CpR mc w w := ⟨Keeps.refl _ _, KeepU.refl _⟩
theorem CpR.ofNo {mc : Nat} {w w' : World} (k : Keeps NoB w w') : CpR mc w w' := ⟨k.mono (fun _ _ f => f.elim), KeepU.ofNo k⟩
/-- A copied file's parts. -/
def CpRow (base : Nat) (xs : List UInt8) (v : Value) (w : World) : Prop := ∃ A c, v = .slice A xs.length c ∧ RowU w v xs ∧ ∀ k, datB v = some k → base ≤ k
theorem CpRow.stay {mc base : Nat} {xs : List UInt8} {v : Value} {w w' : World} (k : CpR mc w w') (h : CpRow base xs v w) : CpRow base xs v w' := by
  obtain ⟨A, c, e, hr⟩ := h
  exact ⟨A, c, e, hr.1.keepU k.2, hr.2⟩
/-- A file's blocks, those of its bytes too. -/
def FMem.OD (f : FMem) (i : Nat) : Prop := f.O i ∨ datB f.dv = some i ∨ datB f.sv = some i
def CpLog (base : Nat) (l : List DoneS) (v : Value) (w : World) : Prop := LogV w v l ∧ ∀ b, v.ownBlock = some b → base ≤ b
theorem CpLog.stay {mc base : Nat} {l : List DoneS} {v : Value} {w w' : World} (hb : mc < base) (k : CpR mc w w') (h : CpLog base l v w) : CpLog base l v w' :=
  ⟨OwnW.keeps h.1 k.1 (fun i hi f => by have := h.2 i hi; have : i = mc := f; omega), h.2⟩
def CpAgg (base : Nat) (x : FileS) (v : Value) (w : World) : Prop := ∃ dv sv lv, v = .agg #[dv, sv, lv] ∧ CpRow base x.data dv w ∧ CpRow base x.safe sv w ∧ CpLog base x.log lv w
theorem CpAgg.stay {mc base : Nat} {x : FileS} {v : Value} {w w' : World} (hb : mc < base) (k : CpR mc w w') (h : CpAgg base x v w) : CpAgg base x v w' := by
  obtain ⟨dv, sv, lv, e, h1, h2, h3⟩ := h
  exact ⟨dv, sv, lv, e, h1.stay k, h2.stay k, h3.stay hb k⟩
def CpBox (base : Nat) (x : FileS) (v : Value) (w : World) : Prop := ∃ f : FMem, v = .pointer (some ⟨f.fb, 0, none⟩) ∧ IsFile w f x ∧ ∀ i, f.OD i → base ≤ i
theorem CpBox.stay {mc base : Nat} {x : FileS} {v : Value} {w w' : World} (hb : mc < base) (k : CpR mc w w') (h : CpBox base x v w) : CpBox base x v w' := by
  obtain ⟨f, e, hf, ho⟩ := h
  have hn : ∀ i, f.O i → ¬ OneB mc i := fun i hi e => by have := ho i (.inl hi); have : i = mc := e; omega
  exact ⟨f, e, ⟨k.1.obj hf.blk (hn _ (.inl rfl)), hf.dat.keepU k.2, hf.saf.keepU k.2, hf.log.keeps k.1 (fun i hi => hn i (.inr hi))⟩, ho⟩
theorem CpAgg.box {base : Nat} {x : FileS} {dv sv lv : Value} {w : World} (hb : base ≤ w.heap.size) (h1 : CpRow base x.data dv w) (h2 : CpRow base x.safe sv w) (h3 : CpLog base x.log lv w) :
    CpBox base x (.pointer (some ⟨w.heap.size, 0, none⟩)) (w.alloc (.cells #[dv, sv, lv] 91)) := by
  have hk : Keeps NoB w (w.alloc (.cells #[dv, sv, lv] 91)) := (Keeps.refl NoB w).alloc _
  obtain ⟨_, _, _, r1⟩ := h1
  obtain ⟨_, _, _, r2⟩ := h2
  refine ⟨⟨w.heap.size, dv, sv, lv⟩, rfl, ⟨heap_alloc_new w _, r1.1.keepU (KeepU.ofNo hk), r2.1.keepU (KeepU.ofNo hk), h3.1.keeps hk (fun _ _ f => f)⟩, fun i hi => ?_⟩
  rcases hi with (rfl | hi) | hi | hi
  · exact hb
  · exact h3.2 i hi
  · exact r1.2 i hi
  · exact r2.2 i hi
/-- The worlds of the statement that copies a file. -/
def CpJ (w4 : World) (mc cnt : Nat) (g : Nat → Option Nat) (k : Nat) (x : FileS) : Nat → World → Prop
  | 0, w => Keeps NoB w4 w
  | _, w => ∃ f2 : FMem, IsFile w f2 x ∧ (∀ i, f2.OD i → w4.heap.size ≤ i) ∧ MapF w mc (cnt + 1) (fun j => if j = k then some f2.fb else g j) ∧ Keeps (OneB mc) w4 w
theorem CpJ.then {w4 w w' : World} {mc cnt k : Nat} {g : Nat → Option Nat} {x : FileS} {n : Nat} (h : CpJ w4 mc cnt g k x n w) (q : Keeps NoB w w') : CpJ w4 mc cnt g k x n w' := by
  match n, h with
  | 0, h => exact Keeps.then h q
  | n + 1, ⟨f2, h1, h2, h3, h4⟩ => exact ⟨f2, h1.keeps q (fun _ _ f => f) (NotU8.noB _), h2, h3.keeps q (fun f => f), h4.then q⟩
theorem CpJ.keeps {w4 w : World} {mc cnt k : Nat} {g : Nat → Option Nat} {x : FileS} {n : Nat} (h : CpJ w4 mc cnt g k x n w) : Keeps (OneB mc) w4 w := by
  match n, h with
  | 0, h => exact h.mono (fun _ _ f => f.elim)
  | n + 1, ⟨f2, h1, h2, h3, h4⟩ => exact h4
/-- What has been copied. -/
structure Copied (w : World) (base : Nat) (s : FSt) (g g2 : Nat → Option FMem) (left : Nat → Bool) : Prop where
  dom : ∀ n, (g2 n).isSome = ((g n).isSome && !left n)
  file : ∀ n f, g2 n = some f → IsFile w f (s.file n) ∧ ∀ i, f.OD i → base ≤ i
  apart : ∀ n n' f f', g2 n = some f → g2 n' = some f' → n ≠ n' → ∀ i, f.O i → ¬ f'.O i
theorem Copied.more {w4 w5 : World} {base mc k : Nat} {s : FSt} {g g2 : Nat → Option FMem} {left : Nat → Bool} {f f2 : FMem} (h : Copied w4 base s g g2 left) (hf : g k = some f) (h2 : IsFile w5 f2 (s.file k)) (ho : ∀ i, f2.OD i → w4.heap.size ≤ i)
    (hk : Keeps (OneB mc) w4 w5) (hu : NotU8 w4 (OneB mc)) (hmc : mc < base) (hb : base ≤ w4.heap.size) : Copied w5 base s g (fun n => if n = k then some f2 else g2 n) (fun j => left j && j != k) := by
  refine ⟨fun n => ?_, fun n f' hn => ?_, fun n n' f1 f1' hn hn' hne i hi hi' => ?_⟩
  · by_cases hn : n = k
    · subst hn; simp [hf]
    · have hb : (n != k) = true := by simp [hn]
      simp only [if_neg hn]; rw [h.dom n, hb, Bool.and_true]
  · by_cases hnk : n = k
    · subst hnk
      simp only [if_true, Option.some.injEq] at hn
      subst hn
      exact ⟨h2, fun i hi => Nat.le_trans hb (ho i hi)⟩
    · simp only [if_neg hnk] at hn
      obtain ⟨h3, h4⟩ := h.file n f' hn
      exact ⟨h3.keeps hk (fun i hi e => by have := h4 i (.inl hi); have : i = mc := e; omega) hu, h4⟩
  · by_cases h1 : n = k
    · have h1' : n' ≠ k := fun e => hne (h1.trans e.symm)
      simp only [if_pos h1, Option.some.injEq] at hn
      simp only [if_neg h1'] at hn'
      subst hn
      have := ho i (.inl hi)
      have := (h.file n' f1' hn').1.lt i hi'
      omega
    · simp only [if_neg h1] at hn
      by_cases h1' : n' = k
      · simp only [if_pos h1', Option.some.injEq] at hn'
        subst hn'
        have := ho i (.inl hi')
        have := (h.file n f1 hn).1.lt i hi
        omega
      · simp only [if_neg h1'] at hn'
        exact h.apart n n' f1 f1' hn hn' hne i hi hi'
/-- The copied moves. -/
def CpMv (cb base : Nat) (l : List MoveS) (v : Value) (w : World) : Prop := MovesV w v l ∧ ∀ b, v.ownBlock = some b → base ≤ b
theorem CpMv.mk' {cb base : Nat} {l : List MoveS} {v : Value} {w : World} (h : MovesV w v l) (hb : ∀ b, v.ownBlock = some b → base ≤ b) : CpMv cb base l v w := ⟨h, hb⟩
theorem CpMv.stay {cb base : Nat} {l : List MoveS} {v : Value} {w w' : World} (hb : cb < base) (k : Keeps (OneB cb) w w') (h : CpMv cb base l v w) : CpMv cb base l v w' :=
  ⟨OwnW.keeps h.1 k (fun i hi f => by have := h.2 i hi; have : i = cb := f; omega), h.2⟩
/-- The worlds of the statement that copies the names and the moves. -/
def CpK (W0 W1 W2 : World) (cb mc mn ms : Nat) (Am : Option Addr) (cm : Nat) (s : FSt) : Nat → World → Prop
  | 0, w => w = W0
  | 1, w => w = W1
  | 2, w => w = W2
  | 3, w => Keeps NoB W2 w
  | 4, w => Keeps (OneB cb) W2 w ∧ w.heap[cb]? = some (.cells #[.map (some mc), .int .i64 (s.F.length : Nat), .map (some W0.heap.size), .map (some ms), .slice Am s.M.length cm, .int .i64 s.cap, .int .i64 (s.ops : Nat), .int .i64 s.left, .bool s.off] 79 (0, 0))
  | 5, w => Keeps (OneB cb) W2 w ∧ w.heap[cb]? = some (.cells #[.map (some mc), .int .i64 (s.F.length : Nat), .map (some W0.heap.size), .map (some W1.heap.size), .slice Am s.M.length cm, .int .i64 s.cap, .int .i64 (s.ops : Nat), .int .i64 s.left, .bool s.off] 79 (0, 0))
  | _, w => ∃ v, CpMv cb W2.heap.size s.M v w ∧ Keeps (OneB cb) W2 w ∧ w.heap[cb]? = some (.cells #[.map (some mc), .int .i64 (s.F.length : Nat), .map (some W0.heap.size), .map (some W1.heap.size), v, .int .i64 s.cap, .int .i64 (s.ops : Nat), .int .i64 s.left, .bool s.off] 79 (0, 0))
theorem CpK.keeps {W0 W1 W2 w : World} {cb mc mn ms : Nat} {Am : Option Addr} {cm : Nat} {s : FSt} {n : Nat} (h : CpK W0 W1 W2 cb mc mn ms Am cm s n w) (h1 : Keeps NoB W0 W1) (h2 : Keeps NoB W1 W2) : Keeps (OneB cb) W0 w := by
  have m1 : Keeps (OneB cb) W0 W1 := h1.mono (fun _ _ f => f.elim)
  have m2 : Keeps (OneB cb) W0 W2 := (h1.then h2).mono (fun _ _ f => f.elim)
  match n, h with
  | 0, h => exact (show w = W0 from h) ▸ Keeps.refl _ _
  | 1, h => exact (show w = W1 from h) ▸ m1
  | 2, h => exact (show w = W2 from h) ▸ m2
  | 3, h => exact m2.then h
  | 4, h => exact m2.trans h.1 (fun _ _ f => f) (fun _ _ f => f)
  | 5, h => exact m2.trans h.1 (fun _ _ f => f) (fun _ _ f => f)
  | n + 6, ⟨v, _, h, _⟩ => exact m2.trans h (fun _ _ f => f) (fun _ _ f => f)
theorem MapN.clone {w w' : World} {b b' : Nat} {d : Dir} {es : Array MapEntry} {cl : Nat} (h : MapN w b d) (hb : w.heap[b]? = some (.map es cl)) (hb' : w'.heap[b']? = some (.map es cl)) : MapN w' b' d := by
  obtain ⟨D, ⟨es', clock, hb2, F, hs, hD⟩, hr⟩ := h
  rw [hb] at hb2
  injection hb2 with hb2
  injection hb2 with e1 e2
  subst e1 e2
  exact ⟨D, ⟨es, cl, hb', F, hs, hD⟩, hr⟩
/-- What the copy's walk leaves behind is the file system. -/
theorem copied_is {w wr W0 W1 W2 w5 : World} {m : FsMem} {s : FSt} {g2 : Nat → Option FMem} {cb mc r cnt cl1 cl2 : Nat} {es1 es2 : Array MapEntry} {v5 : Value} {left : Nat → Bool} (H : IsFS wr m s) (HC : Copied wr (r + 1) s m.g g2 left) (hl : ∀ k, left k = false)
    (HM : MapF wr mc cnt (fun n => (g2 n).map (·.fb))) (hcnt : cnt ≤ s.F.length + 4096) (hk0 : Keeps NoB wr W0) (hn : W0.heap[m.mn]? = some (.map es1 cl1)) (h1 : W1 = W0.alloc (.map es1 cl1)) (hs : W1.heap[m.ms]? = some (.map es2 cl2)) (h2 : W2 = W1.alloc (.map es2 cl2))
    (hq : w.heap.size ≤ cb ∧ cb < mc ∧ r = mc + 1 ∧ r + 1 ≤ wr.heap.size) (hk : Keeps NoB w wr) (hv : CpMv cb W2.heap.size s.M v5 w5) (hk5 : Keeps (OneB cb) W2 w5) {cur : Array Value} (hcb : wr.heap[cb]? = some (.cells cur 79 (0, 0)))
    (hb5 : w5.heap[cb]? = some (.cells #[.map (some mc), .int .i64 (s.F.length : Nat), .map (some W0.heap.size), .map (some W1.heap.size), v5, .int .i64 s.cap, .int .i64 (s.ops : Nat), .int .i64 s.left, .bool s.off] 79 (0, 0))) :
    ∃ m2 : FsMem, m2.b = cb ∧ IsFS w5 m2 s ∧ (∀ k, m2.O k → w.heap.size ≤ k) ∧ (∀ k, m2.DB k → w.heap.size ≤ k) ∧ Keeps NoB w w5 := by
  have k01 : Keeps NoB W0 W1 := by rw [h1]; exact (Keeps.refl NoB _).alloc _
  have k12 : Keeps NoB W1 W2 := by rw [h2]; exact (Keeps.refl NoB _).alloc _
  have kr2 : Keeps NoB wr W2 := (hk0.then k01).then k12
  have kr5 : Keeps (OneB cb) wr w5 := kr2.trans hk5 (fun _ _ f => f.elim) (fun _ _ f => f)
  have s0 := hk0.size
  have s1 : W1.heap.size = W0.heap.size + 1 := by rw [h1]; show (W0.heap.push _).size = _; simp
  have s2 := k12.size
  have hsz := hk.size
  have hnu : NotU8 wr (OneB cb) := fun i hi cur' q hb => by
    have : i = cb := hi
    subst this
    rw [hcb] at hb
    injection hb with hb
    injection hb with _ hb
    cases hb
  have hdom : ∀ n, (g2 n).isSome = (m.g n).isSome := fun n => by rw [HC.dom n, hl n]; simp
  have hmn : W1.heap[W0.heap.size]? = some (.map es1 cl1) := by rw [h1]; exact heap_alloc_new W0 _
  have hms : W2.heap[W1.heap.size]? = some (.map es2 cl2) := by rw [h2]; exact heap_alloc_new W1 _
  have hns : NotU8 W2 (OneB cb) := fun i hi cur' q hb => by
    have : i = cb := hi
    subst this
    rw [kr2.obj hcb (fun f => f)] at hb
    injection hb with hb
    injection hb with _ hb
    cases hb
  refine ⟨⟨cb, mc, W0.heap.size, W1.heap.size, g2, v5⟩, rfl, ⟨hb5, (HM.keeps kr5 (fun e => by have : mc = cb := e; omega)).mono hcnt, ?_, ?_, hv.1, fun n f hf => ?_, HC.apart, ?_, ?_⟩, fun k hk' => ?_, fun k ⟨n, f, hf, hd⟩ => ?_, (hk.then kr2).iter hk5 hq.1⟩
  · exact ((H.names.keeps hk0 (fun f => f)).clone hn hmn).keeps ((k12.mono (fun _ _ f => f.elim)).trans hk5 (fun _ _ f => f) (fun _ _ f => f)) (fun e => by have : W0.heap.size = cb := e; omega)
  · exact (((H.safe.keeps hk0 (fun f => f)).keeps k01 (fun f => f)).clone hs hms).keeps hk5 (fun e => by have : W1.heap.size = cb := e; omega)
  · have hg : (m.g n).isSome = true := by rw [← hdom n, show g2 n = some f from hf]; rfl
    obtain ⟨f0, hf0⟩ := Option.isSome_iff_exists.1 hg
    obtain ⟨a1, a2, _⟩ := H.file n f0 hf0
    obtain ⟨hfl, hfo⟩ := HC.file n f hf
    exact ⟨a1, a2, hfl.keeps kr5 (fun i hi e => by have := hfo i (.inl hi); have : i = cb := e; omega) hnu⟩
  · exact ⟨by simp only; omega, by simp only; omega, by simp only; omega⟩
  · exact ⟨fun e he => by simp only; rw [hdom]; exact H.has.1 e he, fun e he => by simp only; rw [hdom]; exact H.has.2.1 e he, fun x hx hx9 => by simp only; rw [hdom]; exact H.has.2.2 x hx hx9⟩
  · rcases hk' with e | e | e | e | e | ⟨n, f, hf, hO⟩
    · have : k = cb := e
      omega
    · have : k = mc := e
      omega
    · have : k = W0.heap.size := e
      omega
    · have : k = W1.heap.size := e
      omega
    · have := hv.2 k e
      omega
    · have := (HC.file n f hf).2 k (.inl hO)
      omega
  · have := (HC.file n f hf).2 k (.inr hd)
    omega
set_option maxHeartbeats 4000000 in
set_option maxRecDepth 100000 in
theorem copy_fs (w : World) (m : FsMem) (s : FSt) (N : Nat) (h : IsFS w m s) (inv : Inv N s) (hN : N ≤ 900000000) :
    Calls Tryz.prog 17 #[.pointer (some ⟨m.b, 0, none⟩)] w fun e w' => ∃ m2 : FsMem, e = .returned (.pointer (some ⟨m2.b, 0, none⟩)) ∧ IsFS w' m2 s ∧ (∀ k, m2.O k → w.heap.size ≤ k) ∧ (∀ k, m2.DB k → w.heap.size ≤ k) ∧ Keeps NoB w w' := by
  obtain ⟨c0, c1, c2, c3, c4, c5, c6, c7, c8⟩ := h.c
  obtain ⟨Am, cm, hmv, hmc, hmm⟩ := OwnW.slice h.moves
  rw [hmv] at c4
  have hmm := @run_makeMap Tryz.prog
  have H := Sd.mk h
  have HI := Sd.mk inv
  have HMV := Sd.mk hmv
  clear h inv hmv
  go_enter Tryz.func17, Tryz.ntmps17
  go_upto_region 5 with fail
  obtain ⟨cb, hcb⟩ : ∃ cb, cb = w.heap.size := ⟨_, rfl⟩
  obtain ⟨mc, hmc2⟩ : ∃ mc, mc = w.heap.size + 1 := ⟨_, rfl⟩
  rw [← hmc2, ← hcb]
  obtain ⟨w2, hw2⟩ : ∃ w2, w2 = (w.alloc (.cells #[.map (some mc), .int .i64 (s.F.length : Nat), .map (some m.mn), .map (some m.ms), .slice Am s.M.length cm, .int .i64 s.cap, .int .i64 (s.ops : Nat), .int .i64 s.left, .bool s.off] 79)).alloc (.map #[] 0) := ⟨_, rfl⟩
  rw [← hw2]
  have hs1 : (w.alloc (.cells #[.map (some mc), .int .i64 (s.F.length : Nat), .map (some m.mn), .map (some m.ms), .slice Am s.M.length cm, .int .i64 s.cap, .int .i64 (s.ops : Nat), .int .i64 s.left, .bool s.off] 79)).heap.size = mc := by
    rw [hmc2]
    show (w.heap.push _).size = _
    simp
  have HB2 : Sd (w2.heap[cb]? = some (.cells #[.map (some mc), .int .i64 (s.F.length : Nat), .map (some m.mn), .map (some m.ms), .slice Am s.M.length cm, .int .i64 s.cap, .int .i64 (s.ops : Nat), .int .i64 s.left, .bool s.off] 79 (0, 0))) := ⟨by
    rw [hw2, hcb]
    exact ((Keeps.refl NoB _).alloc _).obj (heap_alloc_new w _) (fun f => f)⟩
  have HM2 : Sd (MapF w2 mc 0 (fun _ => none)) := ⟨by
    have := MapF.made (w.alloc (.cells #[.map (some mc), .int .i64 (s.F.length : Nat), .map (some m.mn), .map (some m.ms), .slice Am s.M.length cm, .int .i64 s.cap, .int .i64 (s.ops : Nat), .int .i64 s.left, .bool s.off] 79))
    rw [hs1] at this
    rw [hw2]
    exact this⟩
  have HK2 : Sd (Keeps NoB w w2) := ⟨by rw [hw2]; exact ((Keeps.refl NoB w).alloc _).alloc _⟩
  have hsz2 : w2.heap.size = mc + 1 := by
    rw [hw2, ← hs1]
    show (Array.push _ _).size = _
    simp
  have H2 := Sd.mk (H.o.kept HK2.o)
  have hbw : m.b < cb := by rw [hcb]; exact FsMem.lt H.o _ (.inl rfl)
  have hmfw : m.mf < cb := by rw [hcb]; exact FsMem.lt H.o _ (.inr (.inl rfl))
  have HQ : Sd (w.heap.size ≤ cb ∧ cb < mc ∧ w2.heap.size = mc + 1) := ⟨by omega⟩
  have d0 : w2.cell? ⟨m.b, 0, none⟩ = some (.map (some m.mf)) := H2.o.c.1
  clear hw2 hs1 c0 c1 c2 c3 c4 c5 c6 c7 c8 hmm hcb hmc2 hsz2
  go_wp2_with (at_range; refine wpList_range_files rfl _ rfl rfl H2.o.files ?_; intro w3 hrg hk hs)
  go_frame
  have HR3 := Sd.mk hrg
  have HK3 := Sd.mk hk
  obtain ⟨r, hr⟩ : ∃ r, r = w2.heap.size := ⟨_, rfl⟩
  rw [← hr] at HR3 ⊢
  have HQ3 : Sd (w.heap.size ≤ cb ∧ cb < mc ∧ r = mc + 1 ∧ w3.heap.size = r + 1) := ⟨by have := HQ.o; omega⟩
  have HLE := Sd.mk HR3.o.left_le
  clear hrg hk hs d0 hr
  go_loopg [4, 5, 18] (w3.rangeLeft m.mf r) (fun gk _ _ _ wr => ∃ (left : Nat → Bool) (g2 : Nat → Option FMem) (cnt : Nat), cnt + gk ≤ s.F.length + 4096 ∧ gk = wr.rangeLeft m.mf r ∧ Sd (RangeF wr m.mf r (s.F.length + 4096) (fun n => (m.g n).map (·.fb)) left) ∧
    Sd (MapF wr mc cnt (fun n => (g2 n).map (·.fb))) ∧ Sd (Copied wr (r + 1) s m.g g2 left) ∧ Sd (Keeps NoB w wr) ∧ Sd (wr.heap[cb]? = some (.cells #[.map (some mc), .int .i64 (s.F.length : Nat), .map (some m.mn), .map (some m.ms), .slice Am s.M.length cm, .int .i64 s.cap, .int .i64 (s.ops : Nat), .int .i64 s.left, .bool s.off] 79 (0, 0))) ∧ r + 1 ≤ wr.heap.size)
  case atStart =>
    refine ⟨_, fun _ => none, 0, by have := HLE.o; omega, rfl, HR3, ⟨HM2.o.keeps HK3.o (fun f => f)⟩, ⟨fun n => ?_, (fun n f e => by cases e), (fun n n' f f' e => by cases e)⟩, ⟨HK2.o.then HK3.o⟩, ⟨HK3.o.obj HB2.o (fun f => f)⟩, by have := HQ3.o; omega⟩
    show false = ((m.g n).isSome && !((m.g n).map (·.fb)).isSome)
    cases m.g n <;> rfl
  case round =>
    obtain ⟨left, g2, cnt, hcnt, rfl, HR, HM, HC, HK, HB, hszr⟩ := hrel
    go_wp2_with (at_next; refine wpList_next_files rfl _ rfl rfl HR.o ?done ?more)
    case done =>
      intro hl
      have HL := Sd.mk hl
      clear hl
      have HWR := Sd.mk (H.o.kept HK.o)
      obtain ⟨Am', cm', hmv, hmc', hmm'⟩ := OwnW.slice HWR.o.moves
      obtain ⟨es1, cl1, hes1⟩ : ∃ es cl, wr.heap[m.mn]? = some (.map es cl) := HWR.o.names.isMap
      obtain ⟨es2, cl2, hes2⟩ : ∃ es cl, wr.heap[m.ms]? = some (.map es cl) := HWR.o.safe.isMap
      obtain ⟨c0, c1, c2, c3, c4, -⟩ := HWR.o.c
      go_upto_region 9 with fail
      obtain ⟨W0, hW0⟩ : ∃ W0, W0 = wr.drew := ⟨_, rfl⟩
      obtain ⟨W1, hW1⟩ : ∃ W1, W1 = W0.alloc (.map es1 cl1) := ⟨_, rfl⟩
      obtain ⟨W2, hW2⟩ : ∃ W2, W2 = W1.alloc (.map es2 cl2) := ⟨_, rfl⟩
      have hk01 : Keeps NoB W0 W1 := by rw [hW1]; exact (Keeps.refl NoB _).alloc _
      have hk12 : Keeps NoB W1 W2 := by rw [hW2]; exact (Keeps.refl NoB _).alloc _
      have hkr0 : Keeps NoB wr W0 := by rw [hW0]; exact (Keeps.refl NoB _).drew
      have HK01 := Sd.mk hk01
      have HK12 := Sd.mk hk12
      have HKR0 := Sd.mk hkr0
      have HE0 : Sd (W0.heap[m.mn]? = some (.map es1 cl1)) := ⟨hkr0.obj hes1 (fun f => f)⟩
      have HE1 : Sd (W1.heap[m.ms]? = some (.map es2 cl2)) := ⟨hk01.obj (hkr0.obj hes2 (fun f => f)) (fun f => f)⟩
      have HB2 : Sd (W2.heap[cb]? = some (.cells #[.map (some mc), .int .i64 (s.F.length : Nat), .map (some m.mn), .map (some m.ms), .slice Am s.M.length cm, .int .i64 s.cap, .int .i64 (s.ops : Nat), .int .i64 s.left, .bool s.off] 79 (0, 0))) := ⟨hk12.obj (hk01.obj (hkr0.obj HB.o (fun f => f)) (fun f => f)) (fun f => f)⟩
      have HMO : Sd (MovesV W2 m.mv s.M) := ⟨(((HWR.o.moves.keeps hkr0 (fun _ _ f => f)).keeps hk01 (fun _ _ f => f)).keeps hk12 (fun _ _ f => f))⟩
      have HLM : Sd (s.M.length ≤ 900000000) := ⟨Nat.le_trans HI.o.lim.moves hN⟩
      have hcbr : cb < wr.heap.size := (Array.getElem?_eq_some_iff.1 HB.o).1
      have HSZ : Sd (cb < W2.heap.size) := ⟨Nat.lt_of_lt_of_le hcbr (Nat.le_trans hkr0.size (Nat.le_trans hk01.size hk12.size))⟩
      have HCELL : Sd (∀ n wx, CpK W0 W1 W2 cb mc m.mn m.ms Am cm s n wx → wx.cell? ⟨m.b, 2, none⟩ = some (.map (some m.mn)) ∧ wx.cell? ⟨m.b, 3, none⟩ = some (.map (some m.ms)) ∧ wx.cell? ⟨m.b, 4, none⟩ = some (.slice Am s.M.length cm)) := ⟨fun n wx hJ => by
        have hk : Keeps (OneB cb) W0 wx := hJ.keeps HK01.o HK12.o
        have hne : ¬ OneB cb m.b := fun e => by have : m.b = cb := e; omega
        have hbw := hk.obj (hkr0.obj HWR.o.blk (fun f => f)) hne
        have e4 : m.mv = .slice Am s.M.length cm := HMV.o
        exact ⟨blk_cell hbw 2, blk_cell hbw 3, by rw [← e4]; exact blk_cell hbw 4⟩⟩
      rw [HMV.o] at HMO
      have HW1 := Sd.mk hW1
      have HW2 := Sd.mk hW2
      have HW0 := Sd.mk hW0
      clear hW1 hW2 hW0 hk01 hk12 hkr0 hes1 hes2 hcbr hmv hmc' hmm' c0 c1 c2 c3 c4
      refine wp_region_chain (J := CpK W0 W1 W2 cb mc m.mn m.ms Am cm s) (R := Keeps (OneB cb)) [4, 9, 14, 16, 18, 20] (Keeps.refl (OneB cb)) (by kernel_rfl) (by kernel_rfl) (by kernel_rfl) HW0.o.symm ?_
      apply chain_const
      · intro _; kernel_rfl
      · rfl
      · intro ss wx n hJ hF
        obtain ⟨k2, k3, k4⟩ := HCELL.o n wx hJ
        clear hF
        unfold flowAt
        go_simp
        exact ⟨Keeps.refl (OneB cb) _, rfl, hJ⟩
      intro K hK
      go_simp
      refine hK _ ?_
      clear hK K
      apply chain_const
      · intro _; kernel_rfl
      · rfl
      · intro ss wx n hJ hF
        obtain ⟨k2, k3, k4⟩ := HCELL.o n wx hJ
        clear hF
        unfold flowAt
        go_simp
        exact ⟨Keeps.refl (OneB cb) _, rfl, hJ⟩
      intro K hK
      go_simp
      refine hK _ ?_
      clear hK K
      apply chain_const
      · intro _; kernel_rfl
      · rfl
      · intro ss wx n hJ hF
        obtain ⟨k2, k3, k4⟩ := HCELL.o n wx hJ
        clear hF
        unfold flowAt
        go_simp
        exact ⟨Keeps.refl (OneB cb) _, rfl, hJ⟩
      intro K hK
      go_simp
      refine hK _ ?_
      clear hK K
      apply chain_const
      · intro _; kernel_rfl
      · rfl
      · intro ss wx n hJ hF
        obtain ⟨k2, k3, k4⟩ := HCELL.o n wx hJ
        clear hF
        unfold flowAt
        go_simp
        exact ⟨Keeps.refl (OneB cb) _, rfl, hJ⟩
      intro K hK
      go_simp
      refine hK _ ?_
      clear hK K
      apply chain_step 0 (.map (some W0.heap.size))
      · intro _; kernel_rfl
      · rfl
      · intro ss wx hJ hF
        clear hF
        have hJ' : wx = W0 := hJ
        subst hJ'
        unfold flowAt
        obtain ⟨k2, k3, k4⟩ := HCELL.o 0 _ rfl
        go_simp
        simp only [flowUpon]
        go_at_call 31
        refine (mclone_raw _ _ _ _ HE0.o).mono ?_
        rintro e w' ⟨rfl, hw⟩
        exact ⟨_, rfl, by rw [hw]; exact (Keeps.refl (OneB cb) _).alloc _, rfl, hw.trans HW1.o.symm⟩
      intro K hK
      go_simp
      refine hK _ ?_
      clear hK K
      apply chain_const
      · intro _; kernel_rfl
      · rfl
      · intro ss wx n hJ hF
        obtain ⟨k2, k3, k4⟩ := HCELL.o n wx hJ
        clear hF
        unfold flowAt
        go_simp
        exact ⟨Keeps.refl (OneB cb) _, rfl, hJ⟩
      intro K hK
      go_simp
      refine hK _ ?_
      clear hK K
      apply chain_const
      · intro _; kernel_rfl
      · rfl
      · intro ss wx n hJ hF
        obtain ⟨k2, k3, k4⟩ := HCELL.o n wx hJ
        clear hF
        unfold flowAt
        go_simp
        exact ⟨Keeps.refl (OneB cb) _, rfl, hJ⟩
      intro K hK
      go_simp
      refine hK _ ?_
      clear hK K
      apply chain_const
      · intro _; kernel_rfl
      · rfl
      · intro ss wx n hJ hF
        obtain ⟨k2, k3, k4⟩ := HCELL.o n wx hJ
        clear hF
        unfold flowAt
        go_simp
        exact ⟨Keeps.refl (OneB cb) _, rfl, hJ⟩
      intro K hK
      go_simp
      refine hK _ ?_
      clear hK K
      apply chain_const
      · intro _; kernel_rfl
      · rfl
      · intro ss wx n hJ hF
        obtain ⟨k2, k3, k4⟩ := HCELL.o n wx hJ
        clear hF
        unfold flowAt
        go_simp
        exact ⟨Keeps.refl (OneB cb) _, rfl, hJ⟩
      intro K hK
      go_simp
      refine hK _ ?_
      clear hK K
      apply chain_step 1 (.map (some W1.heap.size))
      · intro _; kernel_rfl
      · rfl
      · intro ss wx hJ hF
        clear hF
        have hJ' : wx = W1 := hJ
        subst hJ'
        unfold flowAt
        obtain ⟨k2, k3, k4⟩ := HCELL.o 1 _ rfl
        go_simp
        simp only [flowUpon]
        go_at_call 31
        refine (mclone_raw _ _ _ _ HE1.o).mono ?_
        rintro e w' ⟨rfl, hw⟩
        exact ⟨_, rfl, by rw [hw]; exact (Keeps.refl (OneB cb) _).alloc _, rfl, hw.trans HW2.o.symm⟩
      intro K hK
      go_simp
      refine hK _ ?_
      clear hK K
      apply chain_const
      · intro _; kernel_rfl
      · rfl
      · intro ss wx n hJ hF
        obtain ⟨k2, k3, k4⟩ := HCELL.o n wx hJ
        clear hF
        unfold flowAt
        go_simp
        exact ⟨Keeps.refl (OneB cb) _, rfl, hJ⟩
      intro K hK
      go_simp
      refine hK _ ?_
      clear hK K
      apply chain_const
      · intro _; kernel_rfl
      · rfl
      · intro ss wx n hJ hF
        obtain ⟨k2, k3, k4⟩ := HCELL.o n wx hJ
        clear hF
        unfold flowAt
        go_simp
        exact ⟨Keeps.refl (OneB cb) _, rfl, hJ⟩
      intro K hK
      go_simp
      refine hK _ ?_
      clear hK K
      apply chain_const
      · intro _; kernel_rfl
      · rfl
      · intro ss wx n hJ hF
        obtain ⟨k2, k3, k4⟩ := HCELL.o n wx hJ
        clear hF
        unfold flowAt
        go_simp
        exact ⟨Keeps.refl (OneB cb) _, rfl, hJ⟩
      intro K hK
      go_simp
      refine hK _ ?_
      clear hK K
      apply chain_const
      · intro _; kernel_rfl
      · rfl
      · intro ss wx n hJ hF
        obtain ⟨k2, k3, k4⟩ := HCELL.o n wx hJ
        clear hF
        unfold flowAt
        go_simp
        exact ⟨Keeps.refl (OneB cb) _, rfl, hJ⟩
      intro K hK
      go_simp
      refine hK _ ?_
      clear hK K
      apply chain_step_any 2 (p := CpMv cb W2.heap.size s.M)
      · intro _; kernel_rfl
      · rfl
      · exact fun v wx wy hk h => h.stay (by have := HSZ.o; omega) hk
      · intro ss wx hJ hF
        clear hF
        have hJ' : wx = W2 := hJ
        subst hJ'
        obtain ⟨k2, k3, k4⟩ := HCELL.o 2 _ rfl
        unfold flowAt
        go_simp
        simp only [flowUpon]
        go_at_call 40
        refine (cloneM_any _ _ s.M HMO.o (by have := HLM.o; omega)).mono ?_
        rintro e w' ⟨v', rfl, ho, hf, hk⟩
        exact ⟨_, rfl, hk.mono (fun _ _ f => f.elim), ⟨ho, hf⟩, hk⟩
      intro K hK
      go_simp
      refine hK _ ?_
      clear hK K
      apply chain_const
      · intro _; kernel_rfl
      · rfl
      · intro ss wx n hJ hF
        obtain ⟨k2, k3, k4⟩ := HCELL.o n wx hJ
        clear hF
        unfold flowAt
        go_simp
        exact ⟨Keeps.refl (OneB cb) _, rfl, hJ⟩
      intro K hK
      go_simp
      refine hK _ ?_
      clear hK K
      apply chain_step 3 (undef)
      · intro _; kernel_rfl
      · rfl
      · intro ss wx hJ hF
        clear hF
        have hJ' : Keeps NoB W2 wx := hJ
        have hb := hJ'.obj HB2.o (fun f => f)
        have c2 := blk_cell hb 2
        have fz := blk_frozen hb 2
        have HJ := Sd.mk hJ'
        have HBX := Sd.mk hb
        clear hJ hJ' hb
        unfold flowAt
        go_simp
        exact ⟨(Keeps.refl _ _).setCell ⟨cb, 2, none⟩ _ (fun _ => rfl), rfl, (HJ.o.mono (fun _ _ f => f.elim)).setCell ⟨cb, 2, none⟩ _ (fun _ => rfl), blk_set HBX.o 2 _⟩
      intro K hK
      go_simp
      refine hK _ ?_
      clear hK K
      apply chain_const
      · intro _; kernel_rfl
      · rfl
      · intro ss wx n hJ hF
        obtain ⟨k2, k3, k4⟩ := HCELL.o n wx hJ
        clear hF
        unfold flowAt
        go_simp
        exact ⟨Keeps.refl (OneB cb) _, rfl, hJ⟩
      intro K hK
      go_simp
      refine hK _ ?_
      clear hK K
      apply chain_step 4 (undef)
      · intro _; kernel_rfl
      · rfl
      · intro ss wx hJ hF
        clear hF
        obtain ⟨hJ1, hb⟩ := hJ
        have c3 := blk_cell hb 3
        have fz := blk_frozen hb 3
        have HJ := Sd.mk hJ1
        have HBX := Sd.mk hb
        clear hJ1 hb
        unfold flowAt
        go_simp
        exact ⟨(Keeps.refl _ _).setCell ⟨cb, 3, none⟩ _ (fun _ => rfl), rfl, HJ.o.setCell ⟨cb, 3, none⟩ _ (fun _ => rfl), blk_set HBX.o 3 _⟩
      intro K hK
      go_simp
      refine hK _ ?_
      clear hK K
      apply chain_const
      · intro _; kernel_rfl
      · rfl
      · intro ss wx n hJ hF
        obtain ⟨k2, k3, k4⟩ := HCELL.o n wx hJ
        clear hF
        unfold flowAt
        go_simp
        exact ⟨Keeps.refl (OneB cb) _, rfl, hJ⟩
      intro K hK
      go_simp
      refine hK _ ?_
      clear hK K
      apply chain_step 5 (undef)
      · intro _; kernel_rfl
      · rfl
      · intro ss wx hJ hF
        obtain ⟨hm, hmo⟩ := hF 14 (by kernel_rfl)
        obtain ⟨A3, c3, e3, _, _⟩ := OwnW.slice hm
        clear hF
        obtain ⟨hJ1, hb⟩ := hJ
        have c4 := blk_cell hb 4
        have fz := blk_frozen hb 4
        have HM : Sd (CpMv cb W2.heap.size s.M (ss 14) wx) := ⟨⟨hm, hmo⟩⟩
        have HJ := Sd.mk hJ1
        have HBX := Sd.mk hb
        clear hJ1 hb hm hmo
        unfold flowAt
        rw [e3] at HM
        go_simp
        exact ⟨(Keeps.refl _ _).setCell ⟨cb, 4, none⟩ _ (fun _ => rfl), rfl, _, HM.o.stay (by have := HSZ.o; omega) ((Keeps.refl _ _).setCell ⟨cb, 4, none⟩ _ (fun _ => rfl)), HJ.o.setCell ⟨cb, 4, none⟩ _ (fun _ => rfl), blk_set HBX.o 4 _⟩
      intro K hK
      go_simp
      refine hK _ ?_
      clear hK K
      apply chain_nil
      intro s2 w5 hJ hF
      clear hF
      obtain ⟨v5, hv5, hk5, hb5⟩ := hJ
      have HFIN := Sd.mk (copied_is HWR.o HC.o HL.o HM.o (by omega) HKR0.o HE0.o HW1.o HE1.o HW2.o ⟨HQ3.o.1, HQ3.o.2.1, HQ3.o.2.2.1, hszr⟩ HK.o hv5 hk5 HB.o hb5)
      clear hv5 hk5 hb5
      go_simp
      go_wp2
      go_ret
      obtain ⟨m2, e2, h⟩ := HFIN.o
      exact ⟨m2, by rw [e2]; rfl, h⟩
    case more =>
      intro k fb w4 hk62 f hf hfb hlt hrg hk hlt2 hen
      have HK4 : Sd (Keeps NoB w w4) := ⟨HK.o.iter hk (by have := HQ3.o; omega)⟩
      have HRG := Sd.mk hrg
      have HM4 := Sd.mk (HM.o.keeps hk (fun e => by have : mc = r := e; have := HQ3.o; omega))
      have HB4 := Sd.mk (hk.obj HB.o (fun e => by have : cb = r := e; have := HQ3.o; omega))
      have HLT2 := Sd.mk hlt2
      have HC4 : Sd (Copied w4 (r + 1) s m.g g2 left) := ⟨⟨HC.o.dom, fun n f2 hn => ⟨(HC.o.file n f2 hn).1.keeps hk (fun i hi e => by have := (HC.o.file n f2 hn).2 i (.inl hi); have : i = r := e; omega) (fun i e cur q hb => by
          have hir : i = r := e
          subst hir
          obtain ⟨D, nn, lf, ct, ⟨es, clock, since, seen, c0, h1, h2, h3, h4, h5, h6⟩, _⟩ := HR.o
          rw [h5] at hb
          cases hb), (HC.o.file n f2 hn).2⟩, HC.o.apart⟩⟩
      have H4 := Sd.mk (H.o.kept HK4.o)
      have hfile := (H4.o.file k f hf).2.2
      have HF4 := Sd.mk hfile
      subst hfb
      have hsz4 : r + 1 ≤ w4.heap.size := Nat.le_trans hszr hk.size
      have HDOM : Sd (g2 k = none) := ⟨by
        have := HC.o.dom k
        rw [hlt] at this
        simpa using this⟩
      have HFF := Sd.mk hf
      clear hfile hk hlt hrg hlt2 HR HM HB HC HK hszr hf
      go_upto_region 8 with fail
      have hfi := H4.o.file k f HFF.o
      obtain ⟨Ad, cd, hdv⟩ := hfi.2.2.dat.slice
      obtain ⟨As, cs, hsv⟩ := hfi.2.2.saf.slice
      obtain ⟨Al, cl, hlv, _, _⟩ := OwnW.slice hfi.2.2.log
      have hfb : f.fb < w.heap.size := FsMem.lt H.o _ (.inr (.inr (.inr (.inr (.inr ⟨k, f, HFF.o, .inl rfl⟩)))))
      have hfl : ∀ i, f.O i → i < w.heap.size := fun i hi => FsMem.lt H.o _ (.inr (.inr (.inr (.inr (.inr ⟨k, f, HFF.o, hi⟩)))))
      have HNU : Sd (NotU8 w4 (OneB mc)) := ⟨fun i hi cur q hb => by
        have : i = mc := hi
        subst this
        obtain ⟨es, c, hm⟩ := HM4.o.isMap
        rw [hm] at hb
        cases hb⟩
      have HCELL : Sd (∀ n wx, CpJ w4 mc cnt (fun n => (g2 n).map (·.fb)) k (s.file k) n wx → wx.cell? ⟨cb, 0, none⟩ = some (.map (some mc)) ∧ wx.cell? ⟨f.fb, 0, none⟩ = some (.slice Ad (s.file k).data.length cd) ∧ wx.cell? ⟨f.fb, 1, none⟩ = some (.slice As (s.file k).safe.length cs) ∧ wx.cell? ⟨f.fb, 2, none⟩ = some (.slice Al (s.file k).log.length cl)) := ⟨fun n wx hJ => by
        have hq := HQ3.o
        have hb1 := hJ.keeps.obj HB4.o (fun e => by have : cb = mc := e; omega)
        have hb2 := hJ.keeps.obj hfi.2.2.blk (fun e => by have : f.fb = mc := e; omega)
        refine ⟨blk_cell hb1 0, ?_, ?_, ?_⟩
        · rw [← hdv]; exact blk_cell hb2 0
        · rw [← hsv]; exact blk_cell hb2 1
        · rw [← hlv]; exact blk_cell hb2 2⟩
      have HROW : Sd (∀ n wx, CpJ w4 mc cnt (fun n => (g2 n).map (·.fb)) k (s.file k) n wx → Bts wx (.slice Ad (s.file k).data.length cd) (s.file k).data ∧ Bts wx (.slice As (s.file k).safe.length cs) (s.file k).safe ∧ LogV wx (.slice Al (s.file k).log.length cl) (s.file k).log) := ⟨fun n wx hJ => by
        have hq := HQ3.o
        have hu : KeepU w4 wx := hJ.keeps.keepU HNU.o
        refine ⟨?_, ?_, ?_⟩
        · rw [← hdv]; exact (hfi.2.2.dat.keepU hu).1
        · rw [← hsv]; exact (hfi.2.2.saf.keepU hu).1
        · rw [← hlv]; exact hfi.2.2.log.keeps hJ.keeps (fun i hi e => by have := hfl i (.inr hi); have : i = mc := e; omega)⟩
      have HSM : Sd ((s.file k).data.length ≤ 67108864 ∧ (s.file k).safe.length ≤ 67108864 ∧ (s.file k).log.length ≤ 900000000) := ⟨HI.o.files.small k, (HI.o.files k).1.small, Nat.le_trans (HI.o.lim.log k) hN⟩
      have HQC : Sd (cnt + 1 ≤ 4611686018427387904) := ⟨by have := HI.o.lim.files; omega⟩
      clear hfi hdv hsv hlv
      refine wp_region_chain (J := CpJ w4 mc cnt (fun n => (g2 n).map (·.fb)) k (s.file k)) (R := CpR mc) [20] (CpR.refl mc) (by kernel_rfl) (by kernel_rfl) (by kernel_rfl) (Keeps.refl NoB w4).drew ?_
      apply chain_const
      · intro _; kernel_rfl
      · rfl
      · intro ss wx n hJ hF
        obtain ⟨k0, k1, k2, k3⟩ := HCELL.o n wx hJ
        clear hF
        unfold flowAt
        go_simp
        exact ⟨CpR.refl mc _, rfl, hJ⟩
      intro K hK
      go_simp
      refine hK _ ?_
      clear hK K
      apply chain_const
      · intro _; kernel_rfl
      · rfl
      · intro ss wx n hJ hF
        obtain ⟨k0, k1, k2, k3⟩ := HCELL.o n wx hJ
        clear hF
        unfold flowAt
        go_simp
        exact ⟨CpR.refl mc _, rfl, hJ⟩
      intro K hK
      go_simp
      refine hK _ ?_
      clear hK K
      apply chain_const
      · intro _; kernel_rfl
      · rfl
      · intro ss wx n hJ hF
        obtain ⟨k0, k1, k2, k3⟩ := HCELL.o n wx hJ
        clear hF
        unfold flowAt
        go_simp
        exact ⟨CpR.refl mc _, rfl, hJ⟩
      intro K hK
      go_simp
      refine hK _ ?_
      clear hK K
      apply chain_const
      · intro _; kernel_rfl
      · rfl
      · intro ss wx n hJ hF
        obtain ⟨k0, k1, k2, k3⟩ := HCELL.o n wx hJ
        clear hF
        unfold flowAt
        go_simp
        exact ⟨CpR.refl mc _, rfl, hJ⟩
      intro K hK
      go_simp
      refine hK _ ?_
      clear hK K
      apply chain_const
      · intro _; kernel_rfl
      · rfl
      · intro ss wx n hJ hF
        obtain ⟨k0, k1, k2, k3⟩ := HCELL.o n wx hJ
        clear hF
        unfold flowAt
        go_simp
        exact ⟨CpR.refl mc _, rfl, hJ⟩
      intro K hK
      go_simp
      refine hK _ ?_
      clear hK K
      apply chain_const
      · intro _; kernel_rfl
      · rfl
      · intro ss wx n hJ hF
        obtain ⟨k0, k1, k2, k3⟩ := HCELL.o n wx hJ
        clear hF
        unfold flowAt
        go_simp
        exact ⟨CpR.refl mc _, rfl, hJ⟩
      intro K hK
      go_simp
      refine hK _ ?_
      clear hK K
      apply chain_const
      · intro _; kernel_rfl
      · rfl
      · intro ss wx n hJ hF
        obtain ⟨k0, k1, k2, k3⟩ := HCELL.o n wx hJ
        clear hF
        unfold flowAt
        go_simp
        exact ⟨CpR.refl mc _, rfl, hJ⟩
      intro K hK
      go_simp
      refine hK _ ?_
      clear hK K
      apply chain_any (p := CpRow w4.heap.size (s.file k).data)
      · intro _; kernel_rfl
      · rfl
      · exact fun v wx wy hk h => h.stay hk
      · intro ss wx n hJ hF
        have hrow := HROW.o n wx hJ
        have HJ := Sd.mk hJ
        clear hF hJ
        unfold flowAt
        go_simp
        simp only [flowUpon]
        go_at_call 35
        refine (cloneB_any wx _ _ _ (s.file k).data hrow.1 (by have := HSM.o.1; omega)).mono ?_
        rintro e w' ⟨A', c', rfl, ho, hf, hk⟩
        exact ⟨_, rfl, CpR.ofNo hk, ⟨_, _, rfl, ho.rowU, fun b hb => (DGrew.fresh ho hf (v := .slice none 0 0) b hb).elim (fun h => by cases h) (fun h => Nat.le_trans HJ.o.keeps.size h)⟩, HJ.o.then hk⟩
      intro K hK
      go_simp
      refine hK _ ?_
      clear hK K
      apply chain_const
      · intro _; kernel_rfl
      · rfl
      · intro ss wx n hJ hF
        obtain ⟨k0, k1, k2, k3⟩ := HCELL.o n wx hJ
        clear hF
        unfold flowAt
        go_simp
        exact ⟨CpR.refl mc _, rfl, hJ⟩
      intro K hK
      go_simp
      refine hK _ ?_
      clear hK K
      apply chain_const
      · intro _; kernel_rfl
      · rfl
      · intro ss wx n hJ hF
        obtain ⟨k0, k1, k2, k3⟩ := HCELL.o n wx hJ
        clear hF
        unfold flowAt
        go_simp
        exact ⟨CpR.refl mc _, rfl, hJ⟩
      intro K hK
      go_simp
      refine hK _ ?_
      clear hK K
      apply chain_const
      · intro _; kernel_rfl
      · rfl
      · intro ss wx n hJ hF
        obtain ⟨k0, k1, k2, k3⟩ := HCELL.o n wx hJ
        clear hF
        unfold flowAt
        go_simp
        exact ⟨CpR.refl mc _, rfl, hJ⟩
      intro K hK
      go_simp
      refine hK _ ?_
      clear hK K
      apply chain_const
      · intro _; kernel_rfl
      · rfl
      · intro ss wx n hJ hF
        obtain ⟨k0, k1, k2, k3⟩ := HCELL.o n wx hJ
        clear hF
        unfold flowAt
        go_simp
        exact ⟨CpR.refl mc _, rfl, hJ⟩
      intro K hK
      go_simp
      refine hK _ ?_
      clear hK K
      apply chain_any (p := CpRow w4.heap.size (s.file k).safe)
      · intro _; kernel_rfl
      · rfl
      · exact fun v wx wy hk h => h.stay hk
      · intro ss wx n hJ hF
        have hrow := HROW.o n wx hJ
        have HJ := Sd.mk hJ
        clear hF hJ
        unfold flowAt
        go_simp
        simp only [flowUpon]
        go_at_call 35
        refine (cloneB_any wx _ _ _ (s.file k).safe hrow.2.1 (by have := HSM.o.2.1; omega)).mono ?_
        rintro e w' ⟨A', c', rfl, ho, hf, hk⟩
        exact ⟨_, rfl, CpR.ofNo hk, ⟨_, _, rfl, ho.rowU, fun b hb => (DGrew.fresh ho hf (v := .slice none 0 0) b hb).elim (fun h => by cases h) (fun h => Nat.le_trans HJ.o.keeps.size h)⟩, HJ.o.then hk⟩
      intro K hK
      go_simp
      refine hK _ ?_
      clear hK K
      apply chain_const
      · intro _; kernel_rfl
      · rfl
      · intro ss wx n hJ hF
        obtain ⟨k0, k1, k2, k3⟩ := HCELL.o n wx hJ
        clear hF
        unfold flowAt
        go_simp
        exact ⟨CpR.refl mc _, rfl, hJ⟩
      intro K hK
      go_simp
      refine hK _ ?_
      clear hK K
      apply chain_const
      · intro _; kernel_rfl
      · rfl
      · intro ss wx n hJ hF
        obtain ⟨k0, k1, k2, k3⟩ := HCELL.o n wx hJ
        clear hF
        unfold flowAt
        go_simp
        exact ⟨CpR.refl mc _, rfl, hJ⟩
      intro K hK
      go_simp
      refine hK _ ?_
      clear hK K
      apply chain_const
      · intro _; kernel_rfl
      · rfl
      · intro ss wx n hJ hF
        obtain ⟨k0, k1, k2, k3⟩ := HCELL.o n wx hJ
        clear hF
        unfold flowAt
        go_simp
        exact ⟨CpR.refl mc _, rfl, hJ⟩
      intro K hK
      go_simp
      refine hK _ ?_
      clear hK K
      apply chain_const
      · intro _; kernel_rfl
      · rfl
      · intro ss wx n hJ hF
        obtain ⟨k0, k1, k2, k3⟩ := HCELL.o n wx hJ
        clear hF
        unfold flowAt
        go_simp
        exact ⟨CpR.refl mc _, rfl, hJ⟩
      intro K hK
      go_simp
      refine hK _ ?_
      clear hK K
      apply chain_any (p := CpLog w4.heap.size (s.file k).log)
      · intro _; kernel_rfl
      · rfl
      · exact fun v wx wy hk h => h.stay (by have := HQ3.o; omega) hk
      · intro ss wx n hJ hF
        have hrow := HROW.o n wx hJ
        have hsz := hJ.keeps.size
        have HJ := Sd.mk hJ
        clear hF hJ
        unfold flowAt
        go_simp
        simp only [flowUpon]
        go_at_call 39
        refine (cloneD_any wx _ (s.file k).log hrow.2.2 (by have := HSM.o.2.2; omega)).mono ?_
        rintro e w' ⟨v', rfl, ho, hf, hk⟩
        exact ⟨_, rfl, CpR.ofNo hk, ⟨ho, fun b hb => Nat.le_trans hsz (hf b hb)⟩, HJ.o.then hk⟩
      intro K hK
      go_simp
      refine hK _ ?_
      clear hK K
      apply chain_any (p := CpAgg w4.heap.size (s.file k))
      · intro _; kernel_rfl
      · rfl
      · exact fun v wx wy hk h => h.stay (by have := HQ3.o; omega) hk
      · intro ss wx n hJ hF
        have h1 := hF 7 (by kernel_rfl)
        have h2 := hF 12 (by kernel_rfl)
        have h3 := hF 17 (by kernel_rfl)
        clear hF
        obtain ⟨A1, c1, e1, r1⟩ := h1
        obtain ⟨A2, c2, e2, r2⟩ := h2
        obtain ⟨A3, c3, e3, _, _⟩ := OwnW.slice h3.1
        rw [e1] at r1
        rw [e2] at r2
        rw [e3] at h3
        have HG := Sd.mk (And.intro r1 (And.intro r2 h3))
        clear r1 r2 h3
        unfold flowAt
        go_simp
        exact ⟨CpR.refl mc _, ⟨_, _, _, rfl, ⟨_, _, rfl, HG.o.1⟩, ⟨_, _, rfl, HG.o.2.1⟩, HG.o.2.2⟩, hJ⟩
      intro K hK
      go_simp
      refine hK _ ?_
      clear hK K
      apply chain_any (p := CpBox w4.heap.size (s.file k))
      · intro _; kernel_rfl
      · rfl
      · exact fun v wx wy hk h => h.stay (by have := HQ3.o; omega) hk
      · intro ss wx n hJ hF
        obtain ⟨dv, sv, lv, e2, h1, h2, h3⟩ := hF 18 (by kernel_rfl)
        clear hF
        obtain ⟨A1, c1, rfl, r1⟩ := h1
        obtain ⟨A2, c2, rfl, r2⟩ := h2
        obtain ⟨A3, c3, rfl, _, _⟩ := OwnW.slice h3.1
        have HBX := Sd.mk (CpAgg.box (x := s.file k) hJ.keeps.size ⟨_, _, rfl, r1⟩ ⟨_, _, rfl, r2⟩ h3)
        have hkk : Keeps NoB wx (wx.alloc (.cells #[.slice A1 (s.file k).data.length c1, .slice A2 (s.file k).safe.length c2, .slice A3 (s.file k).log.length c3] 91)) := (Keeps.refl NoB wx).alloc _
        have HJ := Sd.mk (hJ.then hkk)
        clear hJ r1 r2 h3
        unfold flowAt
        go_simp
        exact ⟨CpR.ofNo hkk, HBX.o, HJ.o⟩
      intro K hK
      go_simp
      refine hK _ ?_
      clear hK K
      apply chain_step 0 (undef)
      · intro _; kernel_rfl
      · rfl
      · intro ss wx hJ hF
        obtain ⟨f2, e2, hf2, ho2⟩ := hF 19 (by kernel_rfl)
        clear hF
        obtain ⟨w', hrun, hm', hk'⟩ := (HM4.o.keeps (show Keeps NoB w4 wx from hJ) (fun f => f)).put k f2.fb hk62 (by have := HQC.o; omega)
        have HJ := Sd.mk hJ
        clear hJ
        unfold flowAt
        go_simp
        have hx : Keeps NoB w4 wx := HJ.o
        have hq := HQ3.o
        have hnu : NotU8 wx (OneB mc) := fun i hi cur q hb => by
          have : i = mc := hi
          subst this
          obtain ⟨es, c, hm⟩ := HM4.o.isMap
          rw [hx.obj hm (fun f => f)] at hb
          cases hb
        exact ⟨⟨hk', hk'.keepU hnu⟩, rfl, f2, hf2.keeps hk' (fun i hi e => by have := ho2 i (.inl hi); have : i = mc := e; omega) hnu, ho2, hm', hx.trans hk' (fun _ _ f => f.elim) (fun _ _ f => f)⟩
      intro K hK
      go_simp
      refine hK _ ?_
      clear hK K
      apply chain_nil
      intro s2 w5 hJ hF
      clear hF
      obtain ⟨f2, hf2, ho2, hm5, hk5⟩ := hJ
      have HF5 := Sd.mk hf2
      have HO5 := Sd.mk ho2
      have HM5 := Sd.mk hm5
      have HK5 := Sd.mk hk5
      clear hf2 ho2 hm5 hk5
      go_simp
      go_wp2
      have HRG5 := Sd.mk (HRG.o.keeps HK5.o (fun e => by have : m.mf = mc := e; have := HQ3.o; omega) (fun e => by have : r = mc := e; have := HQ3.o; omega))
      have hrl := HRG.o.left_keeps HK5.o (fun e => by have : m.mf = mc := e; have := HQ3.o; omega) (fun e => by have : r = mc := e; have := HQ3.o; omega)
      have hkw : Keeps NoB w w5 := (HK4.o.iter HK5.o (by have := HQ3.o; omega))
      have HKW := Sd.mk hkw
      have hlt2 := HLT2.o
      clear hkw
      go_roundg (w5.rangeLeft m.mf r)
      case measure => rw [hrl]; exact hlt2
      case rel =>
        refine ⟨_, (fun n => if n = k then some f2 else g2 n), cnt + 1, by rw [hrl]; omega, rfl, HRG5, ⟨HM5.o.congr fun n => ?_⟩, ⟨?_⟩, HKW, ⟨HK5.o.obj HB4.o (fun e => by have : cb = mc := e; have := HQ3.o; omega)⟩, Nat.le_trans hsz4 HK5.o.size⟩
        · by_cases hn : n = k
          · simp only [if_pos hn, Option.map_some]
          · simp only [if_neg hn]
        · exact HC4.o.more HFF.o HF5.o HO5.o HK5.o HNU.o (by have := HQ3.o; omega) hsz4
end Go.Proofs.YtlhhcoijkjcneaaGreat
