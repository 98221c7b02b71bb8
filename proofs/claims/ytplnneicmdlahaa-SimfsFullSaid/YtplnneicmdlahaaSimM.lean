/- simfs: its maps in memory. -/
import Derived.Test.YtplnneicmdlahaaSimD
import Derived.Test.YtplnneicmdlahaaRow
import Derived.Maps.OwnSet
import Derived.Maps.OwnOps
import Derived.Maps.RangeWalk
import Derived.StringKeys
namespace Go.Proofs.Ytplnneicmdlahaa
open Go.RowKit Go.Maps

theorem keyS : Keyed Try.prog 9 := string_keyed Try.underlying9
theorem keyI : Keyed Try.prog 3 := int_keyed Try.underlying3
theorem zeroInt (w : World) : (zeroValue 3).run Try.prog w = .ok (.int .i64 0) w := by kernel_rfl
theorem zeroPtr (w : World) : (zeroValue 66).run Try.prog w = .ok (.pointer none) w := by kernel_rfl
theorem wf_small {n : Nat} (h : n < 9223372036854775808) : (Lit.int .i64 (n : Int)).wf = true := WalkArith.wf_i64 (by omega)
def zd0 : DataW Unit := .lit (.int .i64 0)
theorem zd0_int : (plainElem (H := Unit) Try.prog 3) (.int .i64 0) = some (zd0, []) := plainElem_int Try.underlying3 (by decide)
/-- How a pointer to a file reads. -/
def ptrR : Value → Option (DataW Unit × List MemPlace)
  | .pointer (some ⟨k, 0, none⟩) => some (.lit (.int .u64 k), [])
  | .pointer none => some (.nil, [])
  | _ => none
theorem ptrR_inv {v : Value} {y : DataW Unit × List MemPlace} (h : ptrR v = some y) : (v = .pointer none ∧ y = (.nil, [])) ∨ ∃ k : Nat, v = .pointer (some ⟨k, 0, none⟩) ∧ y = (.lit (.int .u64 k), []) := by
  unfold ptrR at h
  split at h
  · exact .inr ⟨_, rfl, (Option.some.inj h).symm⟩
  · exact .inl ⟨rfl, (Option.some.inj h).symm⟩
  · cases h

theorem tight {P : Program} {k : TypeId} {R : Value → Option (DataW Unit × List MemPlace)} {w : World} {b n : Nat} {D : DataW Unit} (h : w.ownsMap P k R b n D) : w.ownsMap P k R b (Maps.size D) D := by
  obtain ⟨es, clock, hb, F, hs, rfl⟩ := h
  refine ⟨es, clock, hb, F, ?_, rfl⟩
  simp [Maps.size, length_sorted]
theorem ownsMap_keeps {P : Program} {k : TypeId} {R : Value → Option (DataW Unit × List MemPlace)} {F : Nat → Prop} {w w' : World} {b n : Nat} {D : DataW Unit} (h : w.ownsMap P k R b n D) (q : Keeps F w w') (hF : ¬ F b) : w'.ownsMap P k R b n D := by
  obtain ⟨es, clock, hb, r⟩ := h
  exact ⟨es, clock, q.obj hb hF, r⟩
theorem ownsMap_tidy {P : Program} {k : TypeId} {R : Value → Option (DataW Unit × List MemPlace)} {w : World} {b n : Nat} {D : DataW Unit} (K : Keyed P k) (h : w.ownsMap P k R b n D) : Tidy D := by
  obtain ⟨es, e, hp, _⟩ := h.entries K
  exact ⟨es, e, hp⟩

/-! ### names -/
structure NamesR (D : DataW Unit) (d : Dir) : Prop where
  size : Maps.size D = d.length
  at_ : ∀ s, Maps.has D (.string s) = (d.lookup s).isSome ∧ D.atKey (.string s) zd0 = .lit (.int .i64 ((d.lookup s).getD 0 : Nat))
/-- Block b is a map that holds the directory d. -/
def MapN (w : World) (b : Nat) (d : Dir) : Prop := ∃ D, w.ownsMap Try.prog 9 (plainElem (H := Unit) Try.prog 3) b d.length D ∧ NamesR D d
theorem MapN.congr {w : World} {b : Nat} {d d' : Dir} (h : MapN w b d) (hl : d'.length = d.length) (hk : ∀ s, d'.lookup s = d.lookup s) : MapN w b d' := by
  obtain ⟨D, ho, hs, ha⟩ := h
  exact ⟨D, by rw [hl]; exact ho, by rw [hl]; exact hs, fun s => by rw [hk]; exact ha s⟩
theorem MapN.keeps {F : Nat → Prop} {w w' : World} {b : Nat} {d : Dir} (h : MapN w b d) (k : Keeps F w w') (hF : ¬ F b) : MapN w' b d := by
  obtain ⟨D, ho, hr⟩ := h
  exact ⟨D, ownsMap_keeps ho k hF, hr⟩
theorem MapN.lt {w : World} {b : Nat} {d : Dir} (h : MapN w b d) : b < w.heap.size := by obtain ⟨D, ho, _⟩ := h; exact ho.lt
theorem MapN.isMap {w : World} {b : Nat} {d : Dir} (h : MapN w b d) : ∃ es c, w.heap[b]? = some (.map es c) := by obtain ⟨D, ⟨es, c, hb, _⟩, _⟩ := h; exact ⟨es, c, hb⟩
theorem MapN.made (w : World) : MapN (w.alloc (.map #[] 0)) w.heap.size [] :=
  ⟨.map [], World.ownsMap_made _ _ _ _, rfl, fun s => ⟨by simp [Maps.has], by simp [DataW.atKey, zd0]⟩⟩
theorem key_str (S : ByteArray) (hS : S.size ≤ 9223372036854775807) : keyOf Try.prog 9 (.string S) = some (.string S.data.toList) :=
  Go.WideMaps.keyOf_string_mk (P := Try.prog) Try.underlying9 (s := S) (by unfold maxLen; exact hS)
theorem MapN.look {w : World} {b : Nat} {d : Dir} (h : MapN w b d) (S : ByteArray) (hS : S.size ≤ 9223372036854775807) :
    (Instr.lookup 60 (.map (some b)) (.string S) true).run Try.prog w = .ok (.tuple #[.int .i64 ((d.lookup S.data.toList).getD 0 : Nat), .bool (d.lookup S.data.toList).isSome]) w := by
  obtain ⟨D, hown, hr⟩ := h
  obtain ⟨v, ps, hrun, hR⟩ := hown.look_ok keyS Try.underlying60 (zeroInt w) zd0_int (key_str S hS)
  obtain ⟨c, rfl, hc, _⟩ := plainElem_int_inv Try.underlying3 hR
  rw [(hr.at_ S.data.toList).2] at hc
  simp at hc
  rw [hrun, (hr.at_ S.data.toList).1, hc.1]
theorem MapN.len {w : World} {b : Nat} {d : Dir} (h : MapN w b d) (ty : TypeId) : (Builtin.len_ #[60] ty #[.map (some b)]).run Try.prog w = .ok (.int .i64 (d.length : Nat)) w := by
  obtain ⟨D, hown, hr⟩ := h
  rw [hown.len Try.underlying60 ty, hr.size]
theorem MapN.put {w : World} {b : Nat} {d : Dir} (h : MapN w b d) (hd : (d.map (·.1)).Nodup) (S : ByteArray) (hS : S.size ≤ 9223372036854775807) (n : Nat) (hn : n ≤ 4611686018427387904) (hl : d.length ≤ 4611686018427387904) :
    ∃ w', (Instr.mapUpdate 60 (.map (some b)) (.string S) (.int .i64 (n : Nat))).run Try.prog w = .ok () w' ∧ MapN w' b (d.less S.data.toList ++ [(S.data.toList, n)]) ∧ Keeps (OneB b) w w' := by
  obtain ⟨D, hown, hr⟩ := h
  have hv : (plainElem (H := Unit) Try.prog 3) (.int .i64 (n : Nat)) = some (.lit (.int .i64 (n : Nat)), []) := plainElem_int Try.underlying3 (wf_small (by omega))
  obtain ⟨w', hrun, hown', hg⟩ := hown.update keyS Try.underlying60 (by unfold maxLen; omega) (key_str S hS) hv
  have hm := ownsMap_tidy keyS hown
  have hll := less_len d S.data.toList hd
  have hsz : Maps.size (D.put (.string S.data.toList) (.lit (.int .i64 (n : Nat)))) = (d.less S.data.toList ++ [(S.data.toList, n)]).length := by
    rw [size_put hm, hr.size, (hr.at_ _).1, List.length_append]
    simp only [List.length_cons, List.length_nil]
    split <;> simp_all <;> omega
  refine ⟨w', hrun, ⟨_, hsz ▸ tight hown', hsz, fun x => ?_⟩, Keeps.of_grown hg (fun b' hb _ => by cases hb; rfl)⟩
  rw [List.lookup_append, lookup_less]
  by_cases hx : x = S.data.toList
  · subst hx
    rw [has_put_same hm.isMap (by simp [WideAt.IsKeyLit]), atKey_put_same hm.isMap (by simp [WideAt.IsKeyLit]), if_pos rfl]
    simp
  · have hne : Lit.string x ≠ Lit.string S.data.toList := fun e => hx (by injection e)
    have hb : (x == S.data.toList) = false := by simpa using hx
    rw [has_put_other hne, atKey_put_other hne, if_neg hx, (hr.at_ x).1, (hr.at_ x).2]
    simp [List.lookup_cons, hb]
theorem MapN.del {w : World} {b : Nat} {d : Dir} (h : MapN w b d) (hd : (d.map (·.1)).Nodup) (S : ByteArray) (hS : S.size ≤ 9223372036854775807) (ty : TypeId) :
    ∃ w', (Builtin.delete_ #[60, 9] ty #[.map (some b), .string S]).run Try.prog w = .ok (.tuple #[]) w' ∧ MapN w' b (d.less S.data.toList) ∧ Keeps (OneB b) w w' := by
  obtain ⟨D, hown, hr⟩ := h
  obtain ⟨w', hrun, hown', hg⟩ := hown.drop keyS Try.underlying60 (key_str S hS) ty
  have hm := ownsMap_tidy keyS hown
  have hll := less_len d S.data.toList hd
  have hsd := size_del (k := .string S.data.toList) hm
  have hsz : Maps.size (D.del (.string S.data.toList)) = (d.less S.data.toList).length := by
    rw [hr.size, (hr.at_ _).1] at hsd
    omega
  refine ⟨w', hrun, ⟨_, hsz ▸ tight hown', hsz, fun x => ?_⟩, Keeps.of_grown hg.grown (fun b' hb _ => by cases hb; rfl)⟩
  rw [lookup_less]
  by_cases hx : x = S.data.toList
  · subst hx
    rw [has_del_same, atKey_del_same, if_pos rfl]
    exact ⟨rfl, rfl⟩
  · have hne : Lit.string x ≠ Lit.string S.data.toList := fun e => hx (by injection e)
    rw [has_del_other hne, atKey_del_other hne, if_neg hx]
    exact hr.at_ x

/-! ### a range over names -/
/-- The range over the map b that holds d, by the iterator r: left tells which names are still to come. -/
def RangeN (w : World) (b r : Nat) (d : Dir) (left : List UInt8 → Bool) : Prop :=
  ∃ D lf cnt, w.ranges Try.prog 9 (plainElem (H := Unit) Try.prog 3) b r d.length D lf cnt ∧ NamesR D d ∧ ∀ s, left s = lf (.string s)
theorem RangeN.keeps {F : Nat → Prop} {w w' : World} {b r : Nat} {d : Dir} {left : List UInt8 → Bool} (h : RangeN w b r d left) (k : Keeps F w w') (hb : ¬ F b) (hr : ¬ F r) : RangeN w' b r d left := by
  obtain ⟨D, lf, cnt, ⟨es, clock, since, seen, c0, h1, h2, h3, h4, h5, h6⟩, h7, h8⟩ := h
  exact ⟨D, lf, cnt, ⟨es, clock, since, seen, c0, k.obj h1 hb, h2, h3, h4, k.obj h5 hr, h6⟩, h7, h8⟩
theorem RangeN.map {w : World} {b r : Nat} {d : Dir} {left : List UInt8 → Bool} (h : RangeN w b r d left) : MapN w b d := by
  obtain ⟨D, lf, cnt, h1, h2, _⟩ := h
  exact ⟨D, h1.owns, h2⟩
theorem str_inv (key : Value) (kl : Lit) (h : keyOf Try.prog 9 key = some kl) : ∃ S : ByteArray, key = .string S ∧ kl = .string S.data.toList ∧ S.size ≤ 9223372036854775807 := by
  cases key <;> simp [keyOf, Try.underlying9, mapKey] at h
  rename_i s
  exact ⟨s, rfl, h.2.symm, h.1⟩
section
variable {w : World} {ops : Array Oper} {rest : List Oper} {o : Oper} {a : Act} {Q : Exit → Act → World → Prop}
theorem wpList_range_names (hg : o.guard = none) (m : Operand) (hop : o.op = Op.range 60 m) {b : Nat} {d : Dir} (hm : a.eval m = .map (some b)) (h : MapN w b d)
    (hK : ∀ w', RangeN w' b w.heap.size d (fun s => (d.lookup s).isSome) → Keeps NoB w w' → w'.heap.size = w.heap.size + 1 → wpList Try.prog ops Q rest (a.put o.dst (.pointer (some ⟨w.heap.size, 0, none⟩))) w') :
    wpList Try.prog ops Q (o :: rest) a w := by
  obtain ⟨D, hown, hr⟩ := h
  refine wpList_range_own w hg m _ hop _ _ keyS Try.underlying60 (plainElem (H := Unit) Try.prog 3) b _ D hm hown fun w' h1 h2 h3 => hK w' ⟨D, _, _, h1, hr, fun s => (hr.at_ s).1.symm⟩ (Keeps.of_grown h2 (fun _ e => by cases e)) h3
theorem wpList_next_names (hg : o.guard = none) (it : Operand) (hop : o.op = Op.next it false) {b r : Nat} {d : Dir} {left : List UInt8 → Bool} (hit : a.eval it = .pointer (some ⟨r, 0, none⟩)) (h : RangeN w b r d left)
    (hDone : (∀ s, left s = false) → wpList Try.prog ops Q rest (a.put o.dst (.tuple #[.bool false])) w)
    (hMore : ∀ (S : ByteArray) (n : Nat) (w' : World), S.size ≤ 9223372036854775807 → d.lookup S.data.toList = some n → left S.data.toList = true → RangeN w' b r d (fun s => left s && s != S.data.toList) →
      Keeps (OneB r) w w' → w'.rangeLeft b r < w.rangeLeft b r → (Instr.entry (.pointer (some ⟨r, 0, none⟩))).run Try.prog w' = .ok (.tuple #[.string S, .int .i64 (n : Nat)]) w' → wpList Try.prog ops Q rest (a.put o.dst (.tuple #[.bool true, .string S, .int .i64 (n : Nat)])) w') :
    wpList Try.prog ops Q (o :: rest) a w := by
  obtain ⟨D, lf, cnt, hrg, hr, hl⟩ := h
  refine wpList_next_ranges w hg it hop _ keyS (plainElem (H := Unit) Try.prog 3) Value.string (Value.int .i64) (fun key kl hk => by obtain ⟨S, rfl, _⟩ := str_inv key kl hk; exact ⟨S, rfl⟩) (fun v y hv => by obtain ⟨c, rfl, _⟩ := plainElem_int_inv Try.underlying3 hv; exact ⟨c, rfl⟩)
    b r _ D lf cnt hit hrg (fun _ h0 => hDone fun s => by rw [hl, h0]) (fun S c kl y w' cnt' hk hlk hv hat hrg' hlt hgr hsz hen => ?_)
  obtain ⟨S', e, rfl, hS⟩ := str_inv _ _ hk
  cases e
  obtain ⟨c', e, rfl, _⟩ := plainElem_int_inv Try.underlying3 hv
  cases e
  have hhas := has_true_of_atKey hat
  have h1 := hat zd0
  rw [(hr.at_ S.data.toList).2] at h1
  rw [(hr.at_ S.data.toList).1] at hhas
  obtain ⟨n, hn⟩ := Option.isSome_iff_exists.1 hhas
  rw [hn] at h1
  simp at h1
  subst h1
  refine hMore S n w' hS hn (by rw [hl]; exact hlk) ⟨D, _, _, hrg', hr, fun s => ?_⟩ (Keeps.of_grown hgr (fun b' hb _ => by cases hb; rfl)) (by rw [hrg'.left_eq, hrg.left_eq]; exact hlt) hen
  show (left s && s != S.data.toList) = _
  rw [hl]
  congr 1
end

/-! ### files -/
/-- Block b is a map from numbers to the blocks g. -/
def MapF (w : World) (b : Nat) (N : Nat) (g : Nat → Option Nat) : Prop := ∃ D n, w.ownsMap Try.prog 3 ptrR b n D ∧ n ≤ N ∧ (∀ k : Nat, D.atKey (.int .i64 k) .nil = match g k with | some fb => .lit (.int .u64 (fb : Nat)) | none => .nil) ∧
  (∀ kl, Maps.has D kl = true → ∃ k : Nat, kl = .int .i64 k ∧ (g k).isSome ∧ k ≤ 4611686018427387904) ∧ ∀ k : Nat, (g k).isSome → Maps.has D (.int .i64 k) = true
theorem MapF.keeps {F : Nat → Prop} {w w' : World} {b N : Nat} {g : Nat → Option Nat} (h : MapF w b N g) (k : Keeps F w w') (hF : ¬ F b) : MapF w' b N g := by
  obtain ⟨D, n, ho, hr⟩ := h
  exact ⟨D, n, ownsMap_keeps ho k hF, hr⟩
theorem MapF.lt {w : World} {b N : Nat} {g : Nat → Option Nat} (h : MapF w b N g) : b < w.heap.size := by obtain ⟨D, n, ho, _⟩ := h; exact ho.lt
theorem MapF.isMap {w : World} {b N : Nat} {g : Nat → Option Nat} (h : MapF w b N g) : ∃ es c, w.heap[b]? = some (.map es c) := by obtain ⟨D, n, ⟨es, c, hb, _⟩, _⟩ := h; exact ⟨es, c, hb⟩
theorem MapF.mono {w : World} {b N N' : Nat} {g : Nat → Option Nat} (h : MapF w b N g) (hN : N ≤ N') : MapF w b N' g := by
  obtain ⟨D, n, ho, hn, hr⟩ := h
  exact ⟨D, n, ho, Nat.le_trans hn hN, hr⟩
theorem MapF.congr {w : World} {b N : Nat} {g g' : Nat → Option Nat} (h : MapF w b N g) (hg : ∀ k, g' k = g k) : MapF w b N g' := by
  have : g' = g := funext hg
  rw [this]; exact h
theorem MapF.made (w : World) : MapF (w.alloc (.map #[] 0)) w.heap.size 0 (fun _ => none) :=
  ⟨.map [], 0, World.ownsMap_made _ _ _ _, Nat.le_refl _, fun s => by simp [DataW.atKey], fun kl h => by simp [Maps.has] at h, fun k h => by cases h⟩
theorem key_int (k : Nat) (hk : k ≤ 4611686018427387904) : keyOf Try.prog 3 (.int .i64 (k : Nat)) = some (.int .i64 k) := Go.Maps.keyOf_int_mk (P := Try.prog) Try.underlying3 (wf_small (by omega))
theorem MapF.look {w : World} {b N : Nat} {g : Nat → Option Nat} (h : MapF w b N g) (k : Nat) (hk : k ≤ 4611686018427387904) :
    (Instr.lookup 59 (.map (some b)) (.int .i64 (k : Nat)) false).run Try.prog w = .ok (.pointer ((g k).map fun fb => ⟨fb, 0, none⟩)) w := by
  obtain ⟨D, n, hown, hn, hr, _⟩ := h
  obtain ⟨v, ps, hrun, hR⟩ := hown.lookup keyI Try.underlying59 (zeroPtr w) (show ptrR (.pointer none) = some (.nil, []) from rfl) (key_int k hk)
  rw [hr k] at hR
  rcases ptrR_inv hR with ⟨rfl, h1⟩ | ⟨fb, rfl, h1⟩
  · cases hg : g k with
    | none => rw [hrun]; rfl
    | some fb => rw [hg] at h1; simp at h1
  · cases hg : g k with
    | none => rw [hg] at h1; simp at h1
    | some fb' =>
      rw [hg] at h1
      simp at h1
      have : fb' = fb := by omega
      subst this
      rw [hrun]; rfl
theorem MapF.put {w : World} {b N : Nat} {g : Nat → Option Nat} (h : MapF w b N g) (k fb : Nat) (hk : k ≤ 4611686018427387904) (hN : N ≤ 4611686018427387904) :
    ∃ w', (Instr.mapUpdate 59 (.map (some b)) (.int .i64 (k : Nat)) (.pointer (some ⟨fb, 0, none⟩))).run Try.prog w = .ok () w' ∧ MapF w' b (N + 1) (fun j => if j = k then some fb else g j) ∧ Keeps (OneB b) w w' := by
  obtain ⟨D, n, hown, hn, hr, hs1, hs2⟩ := h
  obtain ⟨w', hrun, hown', hg⟩ := hown.update keyI Try.underlying59 (by unfold maxLen; omega) (key_int k hk) (show ptrR (.pointer (some ⟨fb, 0, none⟩)) = some (.lit (.int .u64 (fb : Nat)), []) from rfl)
  have hm := ownsMap_tidy keyI hown
  have hkey : WideAt.IsKeyLit (.int .i64 (k : Int)) := trivial
  have hne : ∀ j : Nat, j ≠ k → Lit.int .i64 (j : Int) ≠ Lit.int .i64 (k : Int) := fun j hj e => hj (Int.ofNat.inj (Lit.int.inj e).2)
  refine ⟨w', hrun, ⟨_, n + 1, hown', by omega, fun j => ?_, fun kl hkl => ?_, fun j hj => ?_⟩, Keeps.of_grown hg (fun b' hb _ => by cases hb; rfl)⟩
  · by_cases hj : j = k
    · subst hj; rw [atKey_put_same hm.isMap hkey]; simp
    · rw [atKey_put_other (hne j hj)]; simp only [if_neg hj]; exact hr j
  · by_cases hj : kl = .int .i64 (k : Int)
    · subst hj; exact ⟨k, rfl, by simp, hk⟩
    · rw [has_put_other hj] at hkl
      obtain ⟨j, rfl, h1, h2⟩ := hs1 kl hkl
      exact ⟨j, rfl, by simp only [if_neg (fun e : j = k => hj (by rw [e]))]; exact h1, h2⟩
  · by_cases hj' : j = k
    · subst hj'; exact has_put_same hm.isMap hkey _
    · simp only [if_neg hj'] at hj
      rw [has_put_other (hne j hj')]; exact hs2 j hj
end Go.Proofs.Ytplnneicmdlahaa
