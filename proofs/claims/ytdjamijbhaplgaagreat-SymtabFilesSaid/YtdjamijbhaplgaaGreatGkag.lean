/- Arguments, opened: what a row's reading of a slice says in this seat's words. -/
import Derived.ProofKit
import Derived.SliceStrings
import Derived.Deep.Matrix
import Derived.SizedLaws
import Derived.OpenShut
import Derived.Test.YtdjamijbhaplgaaGreatChecked
import Derived.Test.YtdjamijbhaplgaaGreatRows
import Derived.Carry
import Derived.JoinedOf
import Derived.Test.YtdjamijbhaplgaaGreatGkaf
import Derived.Test.YtdjamijbhaplgaaGreatGkaa
import Derived.Test.YtdjamijbhaplgaaGreatGkad
import Derived.Test.YtdjamijbhaplgaaGreatGkab
import Derived.Test.YtdjamijbhaplgaaGreatGkae
namespace Go.Proofs.YtdjamijbhaplgaaGreat
open Go.RowKit Go.ChangeShapes Go.WideShapes Go.ChangeAt

theorem cells8 : Tryz.prog.cellsOf 5 = 1 := by kernel_rfl
theorem cells64 : Tryz.prog.cellsOf 185 = 1 := by kernel_rfl
theorem cellsI64 : Tryz.prog.cellsOf 2 = 1 := by kernel_rfl
theorem cellsS : Tryz.prog.cellsOf 9 = 1 := by kernel_rfl
theorem cellsB : Tryz.prog.cellsOf 49 = 1 := by kernel_rfl

theorem spot_of_cell {w : World} {a : Addr} {v : Value} (h : w.cell? a = some v) : a.spot = none ∧ a.block < w.heap.size := by
  refine ⟨?_, World.block_lt_of_cell? w a h⟩
  unfold World.cell? at h
  cases hs : a.spot with
  | none => rfl
  | some s =>
    split at h
    · simp [hs] at h
    · cases h
theorem add_zero (a : Addr) : a.add 0 = a := rfl
/-- Cells from an address on. -/
theorem vrd_of {w : World} {a : Addr} {vs : List Value} (h : ∀ i, (hi : i < vs.length) → w.cell? (a.add i) = some vs[i]) : VRd w (some a) vs := fun i hi => by
  have h0 := spot_of_cell (h 0 (by omega))
  rw [add_zero] at h0
  obtain ⟨b, o, s⟩ := a
  have hs : s = none := h0.1
  subst hs
  refine ⟨b, o, rfl, ?_⟩
  rw [← add_lit]
  exact h i hi
theorem bts_of {w : World} {A : Option Addr} {n c : Nat} {Z : List Int} (hnc : n ≤ c) (hcm : c ≤ maxLen) (hz : Z.length = c) (hwf : ∀ x ∈ Z, (Lit.int .u8 x).wf = true) (h0 : A = none → c = 0)
    (hc : ∀ a, A = some a → ∀ i, i < c → w.cell? (a.add i) = some (.int .u8 (Z.getD i 0))) : ∃ xs : List UInt8, xs.length = n ∧ Bts w (.slice A n c) xs := by
  have hl : ((Z.take n).map fun x => UInt8.ofNat x.toNat).length = n := by simp; omega
  refine ⟨(Z.take n).map fun x => UInt8.ofNat x.toNat, hl, A, c, by rw [hl], by omega, hcm, h0, fun hcp a ha => ?_, fun i hi => ?_⟩
  · have := hc a ha 0 hcp
    rw [add_zero] at this
    exact spot_of_cell this
  · rw [hl] at hi
    cases A with
    | none => have := h0 rfl; omega
    | some a =>
      have h1 := hc a rfl 0 (by omega)
      rw [add_zero] at h1
      have h2 := spot_of_cell h1
      obtain ⟨b, o, s⟩ := a
      have hs : s = none := h2.1
      subst hs
      refine ⟨b, o, rfl, ?_⟩
      rw [← add_lit, hc _ rfl i (by omega)]
      have hzi : i < Z.length := by omega
      have hb := hwf _ (List.getElem_mem hzi)
      simp only [List.getElem_map, List.getElem_take]
      rw [List.getD_eq_getElem?_getD, List.getElem?_eq_getElem hzi]
      simp only [Option.getD_some]
      congr 2
      have hb2 := bounds_u8 hb
      simp
      omega

section
variable {H : Type} {enc : TypeId × Value → H} {w : World} {held : Bool} {fuel : Nat}
theorem op_bytes {A : Option Addr} {n c : Nat} {x : DataW H × List MemPlace} (h : DataW.trod enc Tryz.prog w 0 (fun _ => true) held fuel 49 [.slice A n c] = some x) :
    (∃ xs : List UInt8, xs.length = n ∧ Bts w (.slice A n c) xs) ∧ (c = 0 ∨ ∃ el sp, x.1 = .slice el sp ∧ el.length + sp.length = c) := by
  rcases open_ints Tryz.underlying49 Tryz.underlying5 cells8 h with ⟨hcs, hx⟩ | ⟨a, len, cap, zs, hcs, _, hl, hm, hz, hx, hcell, hwz⟩
  · simp at hcs
    obtain ⟨rfl, rfl, rfl⟩ := hcs
    exact ⟨⟨[], rfl, Bts.nil w⟩, .inl rfl⟩
  · simp at hcs
    obtain ⟨rfl, rfl, rfl⟩ := hcs
    simp only [if_true] at hz
    refine ⟨bts_of hl hm hz hwz (fun e => by cases e) (fun a' ha i hi => by cases ha; exact hcell i (by omega)), .inr ⟨_, _, by rw [hx], by simp [lits]; omega⟩⟩
theorem op_u64s {A : Option Addr} {n c : Nat} {x : DataW H × List MemPlace} (h : DataW.trod enc Tryz.prog w 0 (fun _ => true) held fuel 199 [.slice A n c] = some x) :
    ∃ ns : List Nat, ns.length = n ∧ VRd w A (u64s ns) ∧ (∀ m ∈ ns, m < 18446744073709551616) ∧ n ≤ maxLen := by
  rcases open_ints Tryz.underlying199 Tryz.underlying185 cells64 h with ⟨hcs, hx⟩ | ⟨a, len, cap, zs, hcs, _, hl, hm, hz, hx, hcell, hwz⟩
  · simp at hcs
    obtain ⟨rfl, rfl, rfl⟩ := hcs
    exact ⟨[], rfl, (fun i hi => by simp [u64s] at hi), by simp, Nat.zero_le _⟩
  · simp at hcs
    obtain ⟨rfl, rfl, rfl⟩ := hcs
    simp only [if_true] at hz
    have hb : ∀ x ∈ zs, 0 ≤ x ∧ x < 18446744073709551616 := fun x hx => by
      have := bounds_u64 (hwz x hx)
      omega
    refine ⟨(zs.take n).map Int.toNat, by simp; omega, vrd_of fun i hi => ?_, fun m hm => ?_, by omega⟩
    · have hi' : i < zs.length := by simp [u64s] at hi; omega
      rw [hcell i hi', List.getD_eq_getElem?_getD, List.getElem?_eq_getElem hi']
      have := hb _ (List.getElem_mem hi')
      simp [u64s]
      omega
    · obtain ⟨x, hx, rfl⟩ := List.mem_map.1 hm
      have := hb x (List.mem_of_mem_take hx)
      omega
theorem op_strs {A : Option Addr} {n c : Nat} {x : DataW H × List MemPlace} (h : DataW.trod enc /- 69 -/ Tryz.prog w 0 (fun _ => true) held fuel 33 [.slice A n c] = some x) :
    ∃ l : List (List UInt8), l.length = n ∧ VRd w A (strs l) ∧ n ≤ maxLen ∧ ((A = none ∧ n = 0) ∨ ∃ el sp, x.1 = .slice el sp ∧ el = l.map fun s => DataW.lit (Lit.string s)) := by
  rcases open_strings Tryz.underlying33 Tryz.underlying9 cellsS h with ⟨hcs, hx⟩ | ⟨a, len, cap, ss, hcs, _, hl, hm, hz, hx, hcell, hws⟩
  · simp at hcs
    obtain ⟨rfl, rfl, rfl⟩ := hcs
    exact ⟨[], rfl, (fun i hi => by simp [strs] at hi), Nat.zero_le _, .inl ⟨rfl, rfl⟩⟩
  · simp at hcs
    obtain ⟨rfl, rfl, rfl⟩ := hcs
    simp only [if_true] at hz
    refine ⟨(ss.take n).map fun s => s.data.toList, by simp; omega, vrd_of fun i hi => ?_, by omega, .inr ⟨_, _, by rw [hx], ?_⟩⟩
    · have hi' : i < ss.length := by simp [strs] at hi; omega
      rw [hcell i hi', List.getD_eq_getElem?_getD, List.getElem?_eq_getElem hi']
      simp [strs, sOf_eq]
    · simp [ChangeShapes.strs]; rfl
theorem op_rows {A : Option Addr} {n c : Nat} {x : DataW H × List MemPlace} (h : DataW.trod enc Tryz.prog w 0 (fun _ => true) held fuel 145 [.slice A n c] = some x) :
    ∃ ls : List (List UInt8), ls.length = n ∧ LRd w A ls ∧ n ≤ maxLen := by
  rcases Go.Deep.open_int_rows Tryz.underlying145 Tryz.underlying49 Tryz.underlying5 cellsB cells8 h with ⟨hcs, hx⟩ | ⟨a, len, cap, AA, L, C, Z, hcs, _, hl, hm, hx, hr⟩
  · simp at hcs
    obtain ⟨rfl, rfl, rfl⟩ := hcs
    exact ⟨[], rfl, ⟨[], rfl, (fun i hi => by simp at hi), fun i hi => by simp at hi⟩, Nat.zero_le _⟩
  · simp at hcs
    obtain ⟨rfl, rfl, rfl⟩ := hcs
    have each : ∀ r : Fin n, ∃ xs : List UInt8, xs.length = L r ∧ Bts w (.slice (AA r) (L r) (C r)) xs := fun r => by
      obtain ⟨_, h1, h2, h3, h4, h5, h6⟩ := hr r (by have := r.isLt; omega)
      exact bts_of h1 h2 h3 h4 h5 (fun a' ha i hi => (h6 a' ha).2 i hi)
    refine ⟨(List.finRange n).map fun r => (each r).choose, by simp, ⟨(List.range n).map fun r => .slice (AA r) (L r) (C r), by simp, vrd_of fun i hi => ?_, fun i hi hi' => ?_⟩, by omega⟩
    · simp at hi
      simp
      exact (hr i (by omega)).1
    · simp at hi
      have := (each ⟨i, hi⟩).choose_spec
      simp
      exact this.2
end
end Go.Proofs.YtdjamijbhaplgaaGreat
namespace Go.Proofs.YtdjamijbhaplgaaGreat
open Go.RowKit Go.ChangeShapes Go.WideShapes Go.ChangeAt

theorem laidOut : laidOutB Tryz.prog = true := by kernel_rfl
section
variable {H : Type} {enc : TypeId × Value → H} {P : Program}
/-- Arguments read as they did where no block of before has changed. -/
theorem trodAll_stays (hl : laidOutB P = true) {W W' : World} (hb : Below W.heap.size W W') : ∀ {ts : List TypeId} {vs : List Value} {ds : List (DataW H)} {ps : List MemPlace},
    ts.all (fun t => P.readableRec t && decide (t < P.types.size)) = true → DataW.TrodAll enc P W 0 (fun _ => true) true ts vs ds ps → (∀ x ∈ ps, x.block < W.heap.size) →
    DataW.TrodAll enc P W' 0 (fun b => decide (b < W.heap.size)) true ts vs ds ps
  | [], vs, ds, ps, _, h, _ => by
    cases vs <;> cases ds <;> simp [DataW.TrodAll] at h ⊢
    exact h
  | t :: ts, vs, ds, ps, hr, h, hlt => by
    obtain ⟨v, vs', d, ds', p, q, rfl, rfl, rfl, h0, h1⟩ := trodAll_cons h
    simp only [List.all_cons, Bool.and_eq_true, decide_eq_true_eq] at hr
    exact trodAll_cons_mk (Below.trod hl hr.1.1 hr.1.2 h0 hb (fun x hx => hlt x (List.mem_append.2 (.inl hx)))) (trodAll_stays hl hb hr.2 h1 (fun x hx => hlt x (List.mem_append.2 (.inr hx))))
theorem weights_all {e : TypeId} {n : Nat} : ∀ {l : List (DataW H)} {d : DataW H}, d ∈ l → n ∈ d.weights P e → n ∈ DataW.weightsAll P e l
  | x :: l, d, hd, hn => by
    simp only [DataW.weightsAll, List.mem_append]
    rcases List.mem_cons.1 hd with rfl | hd
    · exact .inl hn
    · exact .inr (weights_all hd hn)
/-- The strings among a slice's elements are within the reach. -/
theorem sized_strs {ts : List TypeId} {ds : List (DataW H)} (h : (DataW.weightsEach P ts ds).all (· ≤ reachBytes) = true) {j : Nat} {t e : TypeId} {el sp : List (DataW H)} (ht : ts[j]? = some t) (hd : ds[j]? = some (.slice el sp)) (hu : P.underlying t = some (.slice e))
    {s : List UInt8} (hs : DataW.lit (Lit.string s) ∈ el) : s.length ≤ reachBytes := by
  have := List.all_eq_true.1 h _ (DataW.weights_mem_each ht hd s.length (by simp only [DataW.weights, hu]; exact List.mem_cons_of_mem _ (List.mem_append.2 (.inl (weights_all hs (by simp [DataW.weights]))))))
  simpa using this
/-- The bytes of a slice within another are within the reach. -/
theorem sized_row {ts : List TypeId} {ds : List (DataW H)} (h : (DataW.weightsEach P ts ds).all (· ≤ reachBytes) = true) {j : Nat} {t e e2 : TypeId} {el sp : List (DataW H)} (ht : ts[j]? = some t) (hd : ds[j]? = some (.slice el sp)) (hu : P.underlying t = some (.slice e)) (hu2 : P.underlying e = some (.slice e2))
    {l2 s2 : List (DataW H)} (hs : DataW.slice l2 s2 ∈ el) : (l2.length + s2.length) * P.bytesOf e2 ≤ reachBytes := by
  have := List.all_eq_true.1 h _ (DataW.weights_mem_each ht hd ((l2.length + s2.length) * P.bytesOf e2) (by simp only [DataW.weights, hu]; exact List.mem_cons_of_mem _ (List.mem_append.2 (.inl (weights_all hs (by simp [DataW.weights, hu2]))))))
  simpa using this
end
theorem bytes8 : Tryz.prog.bytesOf 5 = 1 := by kernel_rfl
end Go.Proofs.YtdjamijbhaplgaaGreat
namespace Go.Proofs.YtdjamijbhaplgaaGreat

theorem pow7 (i : Nat) : 2 ^ (7 * (i + 1)) = 128 * 2 ^ (7 * i) := by rw [Nat.mul_add, Nat.pow_add, Nat.mul_comm]
theorem ofNat_lo (n : Nat) (h : n < 256) : (UInt8.ofNat n).toNat = n := by simp; omega
/-- What was put is read. -/
theorem rdVar_put (n : Nat) (rest : List UInt8) (i acc : Nat) (hi : i ≤ 9) (hn : n * 2 ^ (7 * i) < 2 ^ 64) (h0 : 0 < i → 0 < n) :
    rdVar (put1 n ++ rest) i acc = (0, acc + n * 2 ^ (7 * i), i + (put1 n).length) := by
  induction n using Nat.strongRecOn generalizing i acc with
  | _ n ih =>
  have h9 : 9 ≤ i → n < 2 := fun h => by
    have : i = 9 := by omega
    subst this
    omega
  by_cases h : n < 128
  · rw [put1_lt n h]
    simp only [List.cons_append, List.nil_append, rdVar, ofNat_lo n (by omega)]
    rw [if_neg (by omega), if_neg (by omega), if_pos h, Nat.mod_eq_of_lt h]
    rfl
  · rw [put1_ge n h]
    have h8 : i ≤ 8 := by
      by_cases h' : 9 ≤ i
      · have := h9 h'; omega
      · omega
    have hp := pow7 i
    simp only [List.cons_append, rdVar, ofNat_lo (n % 128 + 128) (by omega)]
    rw [if_neg (by omega), if_neg (by omega), if_neg (by omega)]
    have e1 : (n % 128 + 128) % 128 = n % 128 := by omega
    have e2 : n / 128 * 2 ^ (7 * (i + 1)) = (128 * (n / 128)) * 2 ^ (7 * i) := by rw [hp, ← Nat.mul_assoc, Nat.mul_comm (n / 128) 128]
    have e3 : 128 * (n / 128) + n % 128 = n := Nat.div_add_mod n 128
    have e4 : n % 128 * 2 ^ (7 * i) + 128 * (n / 128) * 2 ^ (7 * i) = n * 2 ^ (7 * i) := by rw [← Nat.add_mul, Nat.add_comm, e3]
    rw [ih (n / 128) (by omega) (i + 1) _ (by omega) (by rw [e2]; omega) (by omega), e1, e2]
    simp only [List.length_cons, Prod.mk.injEq, true_and]
    omega
/-- What is read is what would be put. -/
theorem rdVar_back : ∀ (l : List UInt8) (i acc : Nat), (rdVar l i acc).1 = 0 → ∃ n j, (rdVar l i acc).2.1 = acc + n * 2 ^ (7 * i) ∧ (rdVar l i acc).2.2 = i + j ∧ j ≤ l.length ∧ put1 n = l.take j ∧ (0 < i → 0 < n)
  | [], i, acc, h => by simp [rdVar] at h
  | c :: l, i, acc, h => by
    unfold rdVar at h ⊢
    by_cases h1 : 9 ≤ i ∧ 1 < c.toNat
    · rw [if_pos h1] at h; simp at h
    rw [if_neg h1] at h ⊢
    by_cases h2 : c.toNat = 0 ∧ 0 < i
    · rw [if_pos h2] at h; simp at h
    rw [if_neg h2] at h ⊢
    by_cases h3 : c.toNat < 128
    · rw [if_pos h3]
      refine ⟨c.toNat, 1, by rw [Nat.mod_eq_of_lt h3], rfl, by simp, ?_, by omega⟩
      rw [put1_lt _ h3]
      simp
    · rw [if_neg h3] at h ⊢
      obtain ⟨n, j, e1, e2, e3, e4, e5⟩ := rdVar_back l (i + 1) _ h
      have hc := c.toNat_lt
      have hn := e5 (by omega)
      refine ⟨c.toNat % 128 + 128 * n, j + 1, ?_, by rw [e2]; omega, by simp; omega, ?_, by omega⟩
      · rw [e1, pow7, Nat.add_mul, Nat.add_assoc]
        congr 2
        rw [← Nat.mul_assoc, Nat.mul_comm n 128]
      · rw [put1_ge _ (by omega), show (c.toNat % 128 + 128 * n) / 128 = n by omega, e4, show (c.toNat % 128 + 128 * n) % 128 + 128 = c.toNat by omega]
        simp
theorem RSt.num_put {s : RSt} {pre post : List UInt8} {n : Nat} (hp : s.p = pre ++ (put1 n ++ post)) (hpos : s.pos = pre.length) (he : s.err = 0) (hn : n < 18446744073709551616) :
    s.num = (n, { s with pos := pre.length + (put1 n).length }) := by
  unfold RSt.num
  rw [if_pos he, hp, hpos, List.drop_left, rdVar_put n post 0 0 (by omega) (by omega) (by omega)]
  simp
theorem zag_zig (n : Int) : zag (zig n) = n := by
  unfold zag zig
  by_cases h : n < 0
  · rw [if_pos h, if_pos (by omega)]; omega
  · rw [if_neg h, if_neg (by omega)]; omega
theorem RSt.text_put {s : RSt} {pre post t : List UInt8} (hp : s.p = pre ++ ((put1 t.length ++ t) ++ post)) (hpos : s.pos = pre.length) (he : s.err = 0) (hn : t.length < 18446744073709551616) :
    s.text t.length = (t, { s with pos := pre.length + (put1 t.length ++ t).length }) := by
  have h1 := RSt.num_put (s := s) (pre := pre) (post := t ++ post) (n := t.length) (by rw [hp, List.append_assoc]) hpos he hn
  have hc : s.count t.length = (t.length, { s with pos := pre.length + (put1 t.length).length }) := by
    unfold RSt.count
    rw [h1, if_neg (by simp)]
  unfold RSt.text
  rw [hc]
  simp only [he, if_true]
  rw [if_neg (by rw [hp]; simp only [List.length_append]; omega)]
  have hd : List.drop (pre.length + (put1 t.length).length) s.p = t ++ post := by
    rw [hp, ← List.append_assoc, ← List.append_assoc, List.append_assoc _ t post, ← List.length_append, List.drop_left]
  rw [hd, List.take_left]
  simp [Nat.add_assoc]
theorem RSt.num_back (p : List UInt8) (h : (RSt.num ⟨p, 0, 0, 0⟩).2.err = 0) : putL [(RSt.num ⟨p, 0, 0, 0⟩).1] = p.take (RSt.num ⟨p, 0, 0, 0⟩).2.pos ∧ (RSt.num ⟨p, 0, 0, 0⟩).2.pos ≤ p.length := by
  unfold RSt.num at h ⊢
  simp only [if_true, List.drop_zero] at h ⊢
  generalize hr : rdVar p 0 0 = r at h ⊢
  obtain ⟨e, n, k⟩ := r
  by_cases he : e = 0
  · subst he
    obtain ⟨m, j, e1, e2, e3, e4, _⟩ := rdVar_back p 0 0 (by rw [hr])
    rw [hr] at e1 e2
    simp at e1 e2
    subst e1 e2
    simp [putL, e4, e3]
  · simp [he] at h
theorem putI_len (l : List Int) (h : ∀ m ∈ l, -9223372036854775808 ≤ m ∧ m ≤ 9223372036854775807) : (putI l).length ≤ 10 * l.length := by
  have := putL_len (l.map zig) (fun n hn => by
    obtain ⟨m, hm, rfl⟩ := List.mem_map.1 hn
    exact zig_lt m (h m hm).1 (h m hm).2)
  rw [List.length_map] at this
  exact this
end Go.Proofs.YtdjamijbhaplgaaGreat
namespace Go.Proofs.YtdjamijbhaplgaaGreat

theorem four_be (n : Nat) (h : n ≤ 1048576) (rest : List UInt8) : be (four n ++ rest) = n := by
  unfold be four
  simp [List.getD]
  omega
theorem sealL_len (l : List UInt8) : (sealL l).length = l.length + 8 := by simp [sealL, four, turned]
theorem openL_seal (l rest : List UInt8) (h : l.length ≤ 1048576) : openL (sealL l ++ rest) = (l, l.length + 8, 0) := by
  have hb : be (sealL l ++ rest) = l.length := by
    unfold sealL
    rw [List.append_assoc, List.append_assoc]
    exact four_be l.length h _
  have hl := sealL_len l
  unfold openL
  rw [hb, if_neg (by rw [List.length_append]; omega), if_neg (by omega), if_neg (by rw [List.length_append]; omega)]
  have e1 : (sealL l ++ rest).take (4 + l.length) = four l.length ++ l := by
    unfold sealL
    rw [List.append_assoc]
    exact List.take_left' (by simp [four]; omega)
  have e2 : (sealL l ++ rest).drop (4 + l.length) = turned (crc (four l.length ++ l)) ++ rest := by
    unfold sealL
    rw [List.append_assoc]
    exact List.drop_left' (by simp [four]; omega)
  have e3 : (sealL l ++ rest).drop 4 = l ++ (turned (crc (four l.length ++ l)) ++ rest) := by
    unfold sealL
    rw [List.append_assoc, List.append_assoc]
    exact List.drop_left' rfl
  rw [e1, e2, e3, if_pos (List.take_left' (turned_len _)), List.take_left' rfl]
theorem openL_cut (l : List UInt8) (m : Nat) (h : l.length ≤ 1048576) (hm : m < l.length + 8) : (openL ((sealL l).take m)).2.2 = 3 := by
  have hl := sealL_len l
  unfold openL
  by_cases h4 : m < 4
  · rw [if_pos (by rw [List.length_take]; omega)]
  · rw [if_neg (by rw [List.length_take]; omega)]
    have hb : be ((sealL l).take m) = l.length := by
      have e : (sealL l).take m = four l.length ++ ((l ++ turned (crc (four l.length ++ l))).take (m - 4)) := by
        unfold sealL
        rw [List.append_assoc, List.take_append]
        rw [List.take_of_length_le (show (four l.length).length ≤ m by show 4 ≤ m; omega)]
        rfl
      rw [e]
      exact four_be l.length h _
    rw [hb, if_neg (by omega), if_pos (by rw [List.length_take]; omega)]
def flatS (ls : List (List UInt8)) : List UInt8 := (ls.map sealL).flatten
theorem flatS_snoc (ls : List (List UInt8)) (l : List UInt8) : flatS (ls ++ [l]) = flatS ls ++ sealL l := by simp [flatS]
theorem flatS_cons (ls : List (List UInt8)) (l : List UInt8) : flatS (l :: ls) = sealL l ++ flatS ls := by simp [flatS]
theorem flatS_len : ∀ (ls : List (List UInt8)), (flatS ls).length = ls.flatten.length + 8 * ls.length
  | [] => rfl
  | l :: ls => by rw [flatS_cons, List.length_append, sealL_len, flatS_len ls, List.flatten_cons, List.length_append, List.length_cons]; omega
theorem flatS_app (a b : List (List UInt8)) : flatS (a ++ b) = flatS a ++ flatS b := by simp [flatS]
theorem framesGo_cut : ∀ (ms : List (List UInt8)) (pre q : List UInt8) (acc : List (List UInt8)) (n : Nat), (∀ m ∈ ms, m.length ≤ 1048576) → (q = [] ∨ (openL q).2.2 = 3) → ms.length < n →
    framesGo n (pre ++ (flatS ms ++ q)) pre.length acc = (acc ++ ms, pre.length + (flatS ms).length, if q = [] then 0 else 3)
  | [], pre, q, acc, n, _, hq, hn => by
    obtain ⟨n, rfl⟩ : ∃ m, n = m + 1 := ⟨n - 1, by simp at hn; omega⟩
    unfold framesGo
    by_cases h : q = []
    · subst h
      rw [if_neg (by simp [flatS])]
      simp [flatS]
    · have hl : 0 < q.length := List.length_pos_iff.2 h
      rw [if_pos (by simp [flatS]; omega)]
      have e : (pre ++ (flatS [] ++ q)).drop pre.length = q := by simp [flatS]
      rw [e, hq.resolve_left h, if_neg (by decide), if_neg h]
      simp [flatS]
  | m :: ms, pre, q, acc, n, hm, hq, hn => by
    obtain ⟨n, rfl⟩ : ∃ m, n = m + 1 := ⟨n - 1, by simp at hn; omega⟩
    have hml := sealL_len m
    rw [flatS_cons]
    unfold framesGo
    rw [if_pos (by simp only [List.length_append]; omega)]
    have e : (pre ++ (sealL m ++ flatS ms ++ q)).drop pre.length = sealL m ++ (flatS ms ++ q) := by simp
    rw [e, openL_seal m _ (hm m (by simp)), if_pos rfl]
    have h := framesGo_cut ms (pre ++ sealL m) q (acc ++ [m]) n (fun x hx => hm x (by simp [hx])) hq (by simp at hn; omega)
    simp only [List.length_append, hml, List.append_assoc] at h ⊢
    rw [h]
    simp [Nat.add_assoc]
theorem framesL_cut (ms : List (List UInt8)) (q : List UInt8) (hm : ∀ m ∈ ms, m.length ≤ 1048576) (hq : q = [] ∨ (openL q).2.2 = 3) :
    framesL (flatS ms ++ q) = (ms, (flatS ms).length, if q = [] then 0 else 3) := by
  have h := framesGo_cut ms [] q [] ((flatS ms ++ q).length + 1) hm hq (by rw [List.length_append, flatS_len]; omega)
  simp only [List.nil_append, List.length_nil, Nat.zero_add] at h
  exact h
/-- What is left of frames that are cut off between two ends. -/
theorem framesL_torn (ls : List (List UInt8)) (k cut : Nat) (hls : ∀ m ∈ ls, m.length ≤ 1048576) (hk : k ≤ ls.length) (h1 : (flatS (ls.take k)).length ≤ cut)
    (h2 : cut ≤ (flatS ls).length) (h3 : k < ls.length → cut < (flatS (ls.take (k + 1))).length) :
    framesL ((flatS ls).take cut) = (ls.take k, (flatS (ls.take k)).length, if cut = (flatS (ls.take k)).length then 0 else 3) := by
  have hm : ∀ m ∈ ls.take k, m.length ≤ 1048576 := fun m hm => hls m (List.mem_of_mem_take hm)
  by_cases he : k < ls.length
  · have e : ls = ls.take k ++ ls[k] :: ls.drop (k + 1) := by rw [← List.drop_eq_getElem_cons he, List.take_append_drop]
    have e2 : ls.take (k + 1) = ls.take k ++ [ls[k]] := List.take_succ_eq_append_getElem he
    have h3' := h3 he
    rw [e2, flatS_snoc, List.length_append, sealL_len] at h3'
    have hl : ls[k].length ≤ 1048576 := hls _ (List.getElem_mem he)
    have hsl := sealL_len ls[k]
    have et : (flatS ls).take cut = flatS (ls.take k) ++ (sealL ls[k]).take (cut - (flatS (ls.take k)).length) := by
      have : flatS ls = flatS (ls.take k) ++ (sealL ls[k] ++ flatS (ls.drop (k + 1))) := by
        rw [← flatS_cons, ← flatS_app, ← e]
      rw [this, List.take_append, List.take_of_length_le h1, List.take_append_of_le_length (by omega)]
    rw [et, framesL_cut _ _ hm (.inr (openL_cut _ _ hl (by omega)))]
    congr 2
    by_cases hc : cut = (flatS (ls.take k)).length
    · rw [if_pos hc, if_pos (by rw [hc]; simp)]
    · rw [if_neg hc, if_neg (fun h => by
        have := congrArg List.length h
        rw [List.length_take, List.length_nil] at this
        omega)]
  · have e : ls.take k = ls := List.take_of_length_le (by omega)
    rw [e] at h1 hm ⊢
    have hc : cut = (flatS ls).length := by omega
    rw [if_pos hc, List.take_of_length_le (by omega)]
    have := framesL_cut ls [] hm (.inl rfl)
    rw [List.append_nil] at this
    rw [this]; rfl
end Go.Proofs.YtdjamijbhaplgaaGreat
namespace Go.Proofs.YtdjamijbhaplgaaGreat

def frameL (s : List UInt8) : List UInt8 := sealL (put1T s)
def bytesL (l : List (List UInt8)) : List UInt8 := (l.drop 1).flatMap frameL
def mayL (s : List UInt8) : Bool := decide (s.length ≤ 64) && !s.contains 0
/-- A symbol's number; 0 where it has none. -/
def numL (l : List (List UInt8)) (s : List UInt8) : Nat := if s ∈ l then l.idxOf s else 0
/-- What a frame's load says: a symbol, and whether nothing is wrong. -/
def symOf (b : List UInt8) : List UInt8 × Int := ((RSt.text ⟨b, 0, 0, 0⟩ 64).1, (RSt.text ⟨b, 0, 0, 0⟩ 64).2.done)
/-- The frames one by one onto a table. -/
def loadGo : List (List UInt8) → List (List UInt8) → Option (List (List UInt8))
  | [], acc => some acc
  | b :: bs, acc => if (symOf b).2 = 0 ∧ mayL (symOf b).1 = true ∧ (symOf b).1 ∉ acc ∧ acc.length < 65536 then loadGo bs (acc ++ [(symOf b).1]) else none
def loadL (p : List UInt8) : Option (List (List UInt8)) := loadGo (framesL p).1 [[]]
def internL : List (List UInt8) → List (List UInt8) → List (List UInt8)
  | [], l => l
  | s :: ss, l => if s ∈ l then internL ss l else internL ss (l ++ [s])
/-- What interning adds. -/
def addedL : List (List UInt8) → List (List UInt8) → List (List UInt8)
  | [], _ => []
  | s :: ss, l => if s ∈ l then addedL ss l else s :: addedL ss (l ++ [s])
theorem internL_eq : ∀ (ss l : List (List UInt8)), internL ss l = l ++ addedL ss l
  | [], l => by simp [internL, addedL]
  | s :: ss, l => by
    unfold internL addedL
    split
    · exact internL_eq ss l
    · rw [internL_eq ss]; simp
theorem addedL_len : ∀ (ss l : List (List UInt8)), (addedL ss l).length ≤ ss.length
  | [], _ => by simp [addedL]
  | s :: ss, l => by
    unfold addedL
    split
    · have := addedL_len ss l; simp; omega
    · have := addedL_len ss (l ++ [s]); simp; omega
theorem internL_nodup : ∀ (ss l : List (List UInt8)), l.Nodup → (internL ss l).Nodup
  | [], _, h => h
  | s :: ss, l, h => by
    unfold internL
    split
    · exact internL_nodup ss l h
    · rename_i hs
      refine internL_nodup ss _ ?_
      rw [List.nodup_append]
      exact ⟨h, by simp, fun a ha b hb => by simp at hb; subst hb; exact fun e => hs (e ▸ ha)⟩
theorem addedL_may : ∀ (ss l : List (List UInt8)), (∀ s ∈ ss, mayL s = true) → ∀ s ∈ addedL ss l, mayL s = true
  | [], _, _, s, hs => by simp [addedL] at hs
  | x :: ss, l, h, s, hs => by
    unfold addedL at hs
    split at hs
    · exact addedL_may ss l (fun y hy => h y (by simp [hy])) s hs
    · rcases List.mem_cons.1 hs with rfl | hs
      · exact h _ (by simp)
      · exact addedL_may ss _ (fun y hy => h y (by simp [hy])) s hs
theorem mayL_len {s : List UInt8} (h : mayL s = true) : s.length ≤ 64 := by
  unfold mayL at h
  simp at h
  exact h.1
theorem symOf_put (s : List UInt8) (h : s.length ≤ 64) : symOf (put1T s) = (s, 0) := by
  have hp : put1T s = [UInt8.ofNat s.length] ++ s := by unfold put1T; rw [put1_lt _ (by omega)]
  have h1 := RSt.text_put (s := ⟨put1T s, 0, 0, 0⟩) (pre := []) (post := []) (t := s) (by simp [put1T]) rfl rfl (by omega)
  have hc : RSt.text ⟨put1T s, 0, 0, 0⟩ 64 = RSt.text ⟨put1T s, 0, 0, 0⟩ s.length := by
    have h2 := RSt.num_put (s := ⟨put1T s, 0, 0, 0⟩) (pre := []) (post := s) (n := s.length) (by simp [put1T]) rfl rfl (by omega)
    have hcount : ∀ m : Int, (s.length : Int) ≤ m → RSt.count ⟨put1T s, 0, 0, 0⟩ m = RSt.num ⟨put1T s, 0, 0, 0⟩ := fun m hm => by
      unfold RSt.count
      rw [h2, if_neg (by simp; omega)]
    unfold RSt.text
    rw [hcount 64 (by omega), hcount s.length (Int.le_refl _)]
  unfold symOf
  rw [hc, h1]
  simp only [RSt.done]
  refine Prod.ext rfl ?_
  simp only [List.length_nil, Nat.zero_add]
  rw [if_neg]
  intro h
  have := h.2
  simp [put1T] at this
theorem loadGo_put : ∀ (ss acc : List (List UInt8)), (∀ s ∈ ss, mayL s = true) → (acc ++ ss).Nodup → acc.length + ss.length ≤ 65536 → loadGo (ss.map put1T) acc = some (acc ++ ss)
  | [], acc, _, _, _ => by simp [loadGo]
  | s :: ss, acc, hm, hn, hl => by
    have hs := symOf_put s (mayL_len (hm s (by simp)))
    have hni : s ∉ acc := fun hmem => by
      rw [List.nodup_append] at hn
      exact hn.2.2 s hmem s (by simp) rfl
    simp only [List.map_cons, loadGo]
    rw [hs, if_pos ⟨rfl, hm s (by simp), hni, by simp at hl; omega⟩, loadGo_put ss _ (fun x hx => hm x (by simp [hx])) (by simpa using hn) (by simp at hl ⊢; omega)]
    simp
theorem flatMap_frameL (l : List (List UInt8)) : l.flatMap frameL = flatS (l.map put1T) := by
  unfold flatS frameL
  rw [List.map_map, List.flatMap_def]
  rfl
theorem put1T_small (s : List UInt8) (h : s.length ≤ 64) : (put1T s).length ≤ 1048576 := by
  unfold put1T
  rw [put1_lt _ (by omega)]
  simp; omega
/-- A beginning of a table's bytes is a beginning of the table. -/
theorem load_back (l : List (List UInt8)) (cut : Nat) (hm : ∀ s ∈ l, mayL s = true) (hn : ([] :: l).Nodup) (hl : l.length ≤ 60000) (hc : cut ≤ (bytesL ([] :: l)).length) :
    ∃ k, k ≤ l.length ∧ loadL ((bytesL ([] :: l)).take cut) = some ([] :: l.take k) ∧ (framesL ((bytesL ([] :: l)).take cut)).2.1 = (bytesL ([] :: l.take k)).length ∧ (bytesL ([] :: l)).take (bytesL ([] :: l.take k)).length = bytesL ([] :: l.take k) ∧
      (bytesL ([] :: l.take k)).length ≤ cut ∧ (cut = (bytesL ([] :: l)).length → k = l.length) := by
  have hb : ∀ x : List (List UInt8), bytesL ([] :: x) = flatS (x.map put1T) := fun x => by unfold bytesL; rw [List.drop_one, List.tail_cons, flatMap_frameL]
  have hsm : ∀ m ∈ l.map put1T, m.length ≤ 1048576 := fun m hmm => by
    obtain ⟨s, hs, rfl⟩ := List.mem_map.1 hmm
    exact put1T_small s (mayL_len (hm s hs))
  -- the greatest number of whole frames
  have hex : ∃ k, k ≤ l.length ∧ (flatS ((l.map put1T).take k)).length ≤ cut ∧ (k < l.length → cut < (flatS ((l.map put1T).take (k + 1))).length) := by
    have : ∀ n, n ≤ l.length → (∃ k, k ≤ n ∧ (flatS ((l.map put1T).take k)).length ≤ cut ∧ (k < n → cut < (flatS ((l.map put1T).take (k + 1))).length)) := by
      intro n
      induction n with
      | zero => intro _; exact ⟨0, Nat.le_refl _, by simp [flatS], fun h => absurd h (Nat.lt_irrefl _)⟩
      | succ n ih =>
        intro hn1
        obtain ⟨k, h1, h2, h3⟩ := ih (by omega)
        by_cases hk : k = n
        · subst hk
          by_cases h4 : (flatS ((l.map put1T).take (k + 1))).length ≤ cut
          · exact ⟨k + 1, Nat.le_refl _, h4, fun h => absurd h (Nat.lt_irrefl _)⟩
          · exact ⟨k, by omega, h2, fun _ => by omega⟩
        · exact ⟨k, by omega, h2, fun _ => h3 (by omega)⟩
    exact this l.length (Nat.le_refl _)
  obtain ⟨k, h1, h2, h3⟩ := hex
  rw [hb l] at hc ⊢
  have hml : (l.map put1T).length = l.length := List.length_map _
  have ht := framesL_torn (l.map put1T) k cut hsm (by omega) h2 hc (fun h => h3 (by omega))
  have hmt : (l.map put1T).take k = (l.take k).map put1T := List.map_take.symm
  have hbk := hb (l.take k)
  rw [← hmt] at hbk
  refine ⟨k, h1, ?_, by rw [ht, hbk], ?_, by rw [hbk]; exact h2, fun he => ?_⟩
  · unfold loadL
    rw [ht, hmt]
    have hn2 : ([[]] ++ l.take k).Nodup := by
      have : ([[]] ++ l.take k) = ([] :: l).take (k + 1) := by simp
      rw [this]
      exact hn.sublist (List.take_sublist _ _)
    have := loadGo_put (l.take k) [[]] (fun s hs => hm s (List.mem_of_mem_take hs)) hn2 (by simp; omega)
    rw [this]; rfl
  · have e : l.map put1T = (l.map put1T).take k ++ (l.map put1T).drop k := (List.take_append_drop _ _).symm
    have e2 : flatS (l.map put1T) = flatS ((l.map put1T).take k) ++ flatS ((l.map put1T).drop k) := (congrArg flatS e).trans (flatS_app _ _)
    rw [hbk, e2, List.take_left']
    rfl
  · by_cases hk : k < l.length
    · have h4 := h3 hk
      have e : l.map put1T = (l.map put1T).take (k + 1) ++ (l.map put1T).drop (k + 1) := (List.take_append_drop _ _).symm
      have e2 : flatS (l.map put1T) = flatS ((l.map put1T).take (k + 1)) ++ flatS ((l.map put1T).drop (k + 1)) := (congrArg flatS e).trans (flatS_app _ _)
      rw [e2, List.length_append] at he
      omega
    · omega
end Go.Proofs.YtdjamijbhaplgaaGreat
