/- octet, plain: numbers out of bytes. No Go here. -/
import Derived.WalkKit
import Derived.WalkSpells
import Derived.WalkLawsBesides
import Derived.Deep.QuietTactic
import Derived.BigQuiet
import Derived.Deep.LoopGhost
import Derived.Lib.SliceRun
import Derived.Lib.Hide
import Derived.Test.YtlhhcoijkjcneaaGreatRows
import Derived.Laws.BytesArg
import Derived.Lib.ConvBytes
import Derived.Maps.AppendAt
import Derived.Lib.AppendStr
namespace Go.Proofs.YtlhhcoijkjcneaaGreat

/-- A number out of bytes: the error, the number, how many bytes it took. -/
def rdVar : List UInt8 → Nat → Nat → Int × Nat × Nat
  | [], _, _ => (3, 0, 0)
  | c :: l, i, acc =>
    if 9 ≤ i ∧ 1 < c.toNat then (10, 0, 0)
    else if c.toNat = 0 ∧ 0 < i then (11, 0, 0)
    else if c.toNat < 128 then (0, acc + (c.toNat % 128) * 2 ^ (7 * i), i + 1)
    else rdVar l (i + 1) (acc + (c.toNat % 128) * 2 ^ (7 * i))

/-- A reader's state. -/
structure RSt where
  p : List UInt8
  pos : Nat
  err : Int
  spot : Nat

def RSt.num (s : RSt) : Nat × RSt :=
  if s.err = 0 then
    match rdVar (s.p.drop s.pos) 0 0 with
    | (e, n, k) => if e = 0 then (n, { s with pos := s.pos + k }) else (0, { s with err := e, spot := s.pos })
  else (0, s)

def RSt.stop (s : RSt) (e : Int) (at_ : Nat) : RSt := { s with err := e, spot := at_, pos := at_ }
def RSt.fail (s : RSt) (e : Int) : RSt := if s.err = 0 ∧ e ≠ 0 then s.stop e s.pos else s
def RSt.byte (s : RSt) : UInt8 × RSt :=
  if s.err = 0 then
    match s.p.drop s.pos with
    | [] => (0, s.stop 3 s.pos)
    | c :: _ => (c, { s with pos := s.pos + 1 })
  else (0, s)
def RSt.count (s : RSt) (most : Int) : Nat × RSt :=
  if s.num.2.err = 0 ∧ (most < 0 ∨ most < (s.num.1 : Int)) then (0, s.num.2.stop 1 s.pos) else s.num
def RSt.text (s : RSt) (most : Int) : List UInt8 × RSt :=
  if (s.count most).2.err = 0 then
    if s.p.length - (s.count most).2.pos < (s.count most).1 then ([], (s.count most).2.stop 3 s.pos)
    else ((s.p.drop (s.count most).2.pos).take (s.count most).1, { (s.count most).2 with pos := (s.count most).2.pos + (s.count most).1 })
  else ([], (s.count most).2)
def zag (n : Nat) : Int := if n % 2 = 1 then -((n / 2 : Nat) : Int) - 1 else ((n / 2 : Nat) : Int)
def RSt.done (s : RSt) : Int := if s.err = 0 ∧ s.pos < s.p.length then 4 else s.err
theorem RSt.num_err_ne (s : RSt) (h : s.err ≠ 0) : s.num = (0, s) := by simp [RSt.num, h]
theorem RSt.num_p (s : RSt) : s.num.2.p = s.p := by
  unfold RSt.num
  split
  · split; split <;> rfl
  · rfl
theorem rdVar_lt : ∀ (l : List UInt8) (i acc : Nat), acc < 2 ^ (7 * i) → i ≤ 9 → (rdVar l i acc).2.1 < 2 ^ 64
  | [], _, _, _, _ => by simp [rdVar]
  | c :: l, i, acc, ha, hi => by
    unfold rdVar
    split
    · simp
    rename_i h1
    split
    · simp
    have hpow : 2 ^ (7 * (i + 1)) = 128 * 2 ^ (7 * i) := by rw [Nat.mul_add, Nat.pow_add, Nat.mul_comm]
    have hm : (c.toNat % 128) * 2 ^ (7 * i) ≤ 127 * 2 ^ (7 * i) := Nat.mul_le_mul_right _ (by omega)
    split
    · by_cases h9 : i = 9
      · subst h9
        have : (c.toNat % 128) * 2 ^ (7 * 9) ≤ 1 * 2 ^ (7 * 9) := Nat.mul_le_mul_right _ (by omega)
        simp only
        omega
      · have : 2 ^ (7 * i) ≤ 2 ^ 56 := Nat.pow_le_pow_right (by decide) (by omega)
        simp only
        omega
    · rename_i h3
      refine rdVar_lt l (i + 1) _ (by omega) ?_
      have := c.toNat_lt
      omega
theorem RSt.num_lt (s : RSt) : s.num.1 < 2 ^ 64 := by
  unfold RSt.num
  split
  · have := rdVar_lt (s.p.drop s.pos) 0 0 (by decide) (by decide)
    split
    rename_i e n k h
    rw [h] at this
    split
    · exact this
    · exact Nat.two_pow_pos 64
  · exact Nat.two_pow_pos 64
/-- A number's bytes. -/
def put1 (n : Nat) : List UInt8 := if n < 128 then [UInt8.ofNat n] else UInt8.ofNat (n % 128 + 128) :: put1 (n / 128)
termination_by n
decreasing_by omega
def putL (l : List Nat) : List UInt8 := l.flatMap put1
theorem put1_lt (n : Nat) (h : n < 128) : put1 n = [UInt8.ofNat n] := by unfold put1; rw [if_pos h]
theorem put1_ge (n : Nat) (h : ¬ n < 128) : put1 n = UInt8.ofNat (n % 128 + 128) :: put1 (n / 128) := by rw [put1, if_neg h]
theorem put1_len : ∀ (k n : Nat), n < 128 ^ (k + 1) → (put1 n).length ≤ k + 1
  | 0, n, h => by rw [put1_lt n (by simpa using h)]; simp
  | k + 1, n, h => by
    by_cases hn : n < 128
    · rw [put1_lt n hn]; simp
    · rw [put1_ge n hn]
      have := put1_len k (n / 128) (by rw [Nat.pow_succ] at h; omega)
      simp only [List.length_cons]; omega
theorem put1_len10 (n : Nat) (h : n < 18446744073709551616) : (put1 n).length ≤ 10 := put1_len 9 n (by omega)
theorem put1_pos (n : Nat) : 1 ≤ (put1 n).length := by
  by_cases h : n < 128
  · rw [put1_lt n h]; simp
  · rw [put1_ge n h]; simp
theorem put1_sum {ys zs : List UInt8} {n m : Nat} (h : ys ++ put1 n = zs ++ put1 m) (hn : n < 18446744073709551616) : zs.length + 1 ≤ ys.length + 10 := by
  have h1 := congrArg List.length h
  simp only [List.length_append] at h1
  have := put1_len10 n hn
  have := put1_pos m
  omega
theorem putL_snoc (l : List Nat) (n : Nat) : putL (l ++ [n]) = putL l ++ put1 n := by simp [putL]
theorem putL_len : ∀ (l : List Nat), (∀ n ∈ l, n < 18446744073709551616) → (putL l).length ≤ 10 * l.length
  | [], _ => by simp [putL]
  | n :: l, h => by
    have h1 := put1_len10 n (h n (by simp))
    have h2 := putL_len l (fun m hm => h m (by simp [hm]))
    simp only [putL, List.flatMap_cons, List.length_append, List.length_cons] at *
    omega
/-- A number with a sign as one without. -/
def zig (n : Int) : Nat := if n < 0 then 2 * (-(n + 1)).toNat + 1 else 2 * n.toNat
def putI (l : List Int) : List UInt8 := putL (l.map zig)
def put1T (s : List UInt8) : List UInt8 := put1 s.length ++ s
def putT (l : List (List UInt8)) : List UInt8 := l.flatMap put1T
theorem putI_snoc (l : List Int) (n : Int) : putI (l ++ [n]) = putI l ++ put1 (zig n) := by simp [putI, putL]
theorem putT_snoc (l : List (List UInt8)) (s : List UInt8) : putT (l ++ [s]) = putT l ++ (put1 s.length ++ s) := by simp [putT, put1T]
theorem zig_lt (n : Int) (h0 : -9223372036854775808 ≤ n) (h1 : n ≤ 9223372036854775807) : zig n < 18446744073709551616 := by
  unfold zig
  split <;> omega
end Go.Proofs.YtlhhcoijkjcneaaGreat
namespace Go.Proofs.YtlhhcoijkjcneaaGreat
open Go.RowKit

/-- A fact laid aside: the walk's simp does not look into it. -/
structure Sd (p : Prop) : Prop where
  mk :: (o : p)

/-- Blocks outside F stay as they were; new blocks may come. -/
structure Keeps (F : Nat → Prop) (w w' : World) : Prop where
  os : w'.os = w.os
  tape : w'.tape = w.tape
  output : w'.output = w.output
  size : w.heap.size ≤ w'.heap.size
  block : ∀ k, k < w.heap.size → ¬ F k → w'.heap[k]? = w.heap[k]?

def NoB : Nat → Prop := fun _ => False
def OneB (b : Nat) : Nat → Prop := fun k => k = b
def FromB (b : Nat) : Nat → Prop := fun k => b ≤ k

theorem Keeps.refl (F : Nat → Prop) (w : World) : Keeps F w w := ⟨rfl, rfl, rfl, Nat.le_refl _, fun _ _ _ => rfl⟩
theorem Keeps.trans {F G H : Nat → Prop} {a b c : World} (h : Keeps F a b) (k : Keeps G b c)
    (hF : ∀ i, i < a.heap.size → F i → H i) (hG : ∀ i, i < a.heap.size → G i → H i) : Keeps H a c :=
  ⟨k.os.trans h.os, k.tape.trans h.tape, k.output.trans h.output, Nat.le_trans h.size k.size,
   fun i hi hn => (k.block i (Nat.lt_of_lt_of_le hi h.size) (fun g => hn (hG i hi g))).trans (h.block i hi (fun f => hn (hF i hi f)))⟩
theorem Keeps.mono {F G : Nat → Prop} {a b : World} (h : Keeps F a b) (hF : ∀ i, i < a.heap.size → F i → G i) : Keeps G a b :=
  ⟨h.os, h.tape, h.output, h.size, fun i hi hn => h.block i hi (fun f => hn (hF i hi f))⟩
theorem Keeps.of_below {w w' : World} (h : Below w.heap.size w w') (F : Nat → Prop) : Keeps F w w' :=
  ⟨h.os, h.tape, h.output, h.size, fun k hk _ => h.block k hk⟩
theorem Keeps.below {F : Nat → Prop} {w w' : World} (h : Keeps F w w') (hF : ∀ i, i < w.heap.size → ¬ F i) : Below w.heap.size w w' :=
  ⟨h.os, h.tape, h.output, h.size, fun k hk => h.block k hk (hF k hk)⟩
theorem Keeps.of_grown {w w' : World} {row : Option Nat} (h : w.grownBy w' row) {F : Nat → Prop} (hr : ∀ b, row = some b → b < w.heap.size → F b) : Keeps F w w' :=
  ⟨h.os, h.tape, h.output, h.size, fun k hk hn => h.block k hk (fun e => hn (hr k e.symm hk))⟩
theorem Keeps.drewN {F : Nat → Prop} {w w' : World} (h : Keeps F w w') (n : Nat) : Keeps F w (w'.drewN n) := ⟨h.os, h.tape, h.output, h.size, h.block⟩
theorem Keeps.drew {F : Nat → Prop} {w w' : World} (h : Keeps F w w') : Keeps F w w'.drew := ⟨h.os, h.tape, h.output, h.size, h.block⟩
theorem Keeps.undrew {F : Nat → Prop} {w w' : World} {n : Nat} (h : Keeps F (w.drewN n) w') : Keeps F w w' := ⟨h.os, h.tape, h.output, h.size, h.block⟩
theorem Keeps.undrew1 {F : Nat → Prop} {w w' : World} (h : Keeps F w.drew w') : Keeps F w w' := ⟨h.os, h.tape, h.output, h.size, h.block⟩
theorem ret_int {k : IntKind} {a b : Int} (h : a = b) : Ending.returned (Value.int k a) = .returned (.int k b) := by rw [h]
theorem Keeps.alloc {F : Nat → Prop} {w w' : World} (h : Keeps F w w') (o : Obj) : Keeps F w (w'.alloc o) :=
  h.trans (G := F) (Keeps.of_grown (World.grownBy_alloc w' o none) (fun _ e => by cases e)) (fun _ _ f => f) (fun _ _ f => f)
theorem Keeps.setCell {F : Nat → Prop} {w w' : World} (h : Keeps F w w') (a : Addr) (u : Value) (ha : a.block < w.heap.size → F a.block) : Keeps F w (w'.setCell a u) :=
  h.trans (G := OneB a.block) ⟨rfl, rfl, rfl, by simp [World.setCell], fun k _ hk => Below.heap_setCell _ _ _ _ hk⟩ (fun _ _ f => f) (fun i hi e => by cases e; exact ha hi)
theorem Keeps.cell {F : Nat → Prop} {w w' : World} (h : Keeps F w w') {a : Addr} {v : Value} (hc : w.cell? a = some v) (hn : ¬ F a.block) : w'.cell? a = some v := by
  have hb := World.block_lt_of_cell? w a hc
  rw [World.cell?_of_block (h.block a.block hb hn)]; exact hc
theorem Keeps.obj {F : Nat → Prop} {w w' : World} (h : Keeps F w w') {b : Nat} {o : Obj} (hc : w.heap[b]? = some o) (hn : ¬ F b) : w'.heap[b]? = some o := by
  rw [h.block b (Array.getElem?_eq_some_iff.1 hc).1 hn]; exact hc

/-- The bytes xs lie from A on. -/
def Rd (w : World) (A : Option Addr) (xs : List UInt8) : Prop :=
  ∀ i (h : i < xs.length), ∃ b o, A = some ⟨b, o, none⟩ ∧ w.cell? ⟨b, o + i, none⟩ = some (.int .u8 (xs[i].toNat : Int))
/-- v is a slice of bytes: xs. F holds of no block that it reads. -/
def Bts (w : World) (v : Value) (xs : List UInt8) : Prop :=
  ∃ A c, v = .slice A xs.length c ∧ xs.length ≤ c ∧ c ≤ maxLen ∧ (A = none → c = 0) ∧ (0 < c → ∀ a, A = some a → a.spot = none ∧ a.block < w.heap.size) ∧ Rd w A xs
/-- The slice value lies in no block of F. -/
def Off (F : Nat → Prop) (v : Value) : Prop := ∀ b, v.ownBlock = some b → ¬ F b
/-- The slice value reads nothing in F. -/
def OffR (F : Nat → Prop) (v : Value) : Prop := ∀ a n c, v = .slice (some a) n c → 0 < c → ¬ F a.block
theorem Off.r {F : Nat → Prop} {v : Value} (h : Off F v) : OffR F v := fun a n c e _ => h a.block (by rw [e]; rfl)

theorem Bts.nil (w : World) : Bts w (.slice none 0 0) [] := ⟨none, 0, rfl, Nat.le_refl _, Nat.zero_le _, fun _ => rfl, (fun _ _ h => by cases h), (fun _ h => by simp at h)⟩
theorem Bts.keeps {F : Nat → Prop} {w w' : World} {v : Value} {xs : List UInt8} (h : Bts w v xs) (k : Keeps F w w') (hF : OffR F v) : Bts w' v xs := by
  obtain ⟨A, c, rfl, h1, h2, h3, h4, h5⟩ := h
  refine ⟨A, c, rfl, h1, h2, h3, fun hc a ha => ⟨(h4 hc a ha).1, Nat.lt_of_lt_of_le (h4 hc a ha).2 k.size⟩, fun i hi => ?_⟩
  obtain ⟨b, o, rfl, hc⟩ := h5 i hi
  exact ⟨b, o, rfl, k.cell hc (hF ⟨b, o, none⟩ xs.length c rfl (by omega))⟩
theorem Bts.below {w w' : World} {v : Value} {xs : List UInt8} (h : Bts w v xs) (k : Below w.heap.size w w') : Bts w' v xs :=
  h.keeps (F := NoB) (Keeps.of_below k _) (fun _ _ _ _ _ f => f)
theorem Bts.drewN {w : World} {v : Value} {xs : List UInt8} (h : Bts w v xs) (n : Nat) : Bts (w.drewN n) v xs := h
def u8v (x : UInt8) : Value := .int .u8 (x.toNat : Int)
def bvs (xs : List UInt8) : List Value := xs.map u8v
theorem bvs_length (xs : List UInt8) : (bvs xs).length = xs.length := by simp [bvs]
theorem bvs_append (xs ys : List UInt8) : bvs (xs ++ ys) = bvs xs ++ bvs ys := by simp [bvs]
theorem bvs_one (xs : List UInt8) : ∀ u ∈ bvs xs, u.oneCell' = true := fun u hu => by obtain ⟨x, _, rfl⟩ := List.mem_map.1 hu; rfl
theorem add_lit (b o j : Nat) : (⟨b, o, none⟩ : Addr).add j = ⟨b, o + j, none⟩ := by unfold Addr.add; split <;> simp_all
/-- An owned row of bytes. -/
def Own (w : World) (base : Nat) (v : Value) (xs : List UInt8) : Prop := w.ownsRow base 5 1 v xs.length (bvs xs)
theorem Own.bts {w : World} {base : Nat} {v : Value} {xs : List UInt8} (h : Own w base v xs) : Bts w v xs := by
  obtain ⟨h1, h2⟩ := h
  rcases h2 with ⟨rfl, hn⟩ | ⟨g, cap, cur, rfl, hb, hg, hn, hc, hs, ht⟩
  · have : xs = [] := List.eq_nil_of_length_eq_zero hn
    subst this; exact Bts.nil w
  · refine ⟨some ⟨g, 0, none⟩, cap, rfl, hn, hc, (fun e => by cases e), (fun _ a ha => by cases ha; exact ⟨rfl, (Array.getElem?_eq_some_iff.1 hg).1⟩), fun i hi => ⟨g, 0, rfl, ?_⟩⟩
    rw [cell_of_row w g (0 + i) cur _ (0, 0) hg]
    have h3 : (bvs xs)[i]? = some (u8v xs[i]) := by simp [bvs, hi]
    rw [← ht, List.getElem?_take] at h3
    split at h3
    · simpa [u8v] using h3
    · cases h3
theorem Own.off {w : World} {base : Nat} {v : Value} {xs : List UInt8} (h : Own w base v xs) {F : Nat → Prop} (hF : ∀ b, base ≤ b → b < w.heap.size → ¬ F b) : Off F v :=
  fun b hb => hF b (World.ownsRow.lt h b hb).1 (World.ownsRow.lt h b hb).2
theorem Own.keeps {F : Nat → Prop} {w w' : World} {base : Nat} {v : Value} {xs : List UInt8} (h : Own w base v xs) (k : Keeps F w w') (hF : Off F v) : Own w' base v xs := by
  obtain ⟨h1, h2⟩ := h
  refine ⟨h1, ?_⟩
  rcases h2 with h2 | ⟨g, cap, cur, rfl, hb, hg, r⟩
  · exact .inl h2
  · exact .inr ⟨g, cap, cur, rfl, hb, k.obj hg (hF g rfl), r⟩
theorem Own.less {w : World} {base b : Nat} {v : Value} {xs : List UInt8} (h : Own w base v xs) (hb : b ≤ base) : Own w b v xs := by
  obtain ⟨h1, h2⟩ := h
  refine ⟨h1, ?_⟩
  rcases h2 with h2 | ⟨g, cap, cur, rfl, hb', r⟩
  · exact .inl h2
  · exact .inr ⟨g, cap, cur, rfl, Nat.le_trans hb hb', r⟩
theorem Own.nil (w : World) (base : Nat) : Own w base (.slice none 0 0) [] := World.ownsRow_nil w base _ _
/-- What the append reads. -/
theorem Rd.news {w : World} {b o : Nat} {xs : List UInt8} (h : Rd w (some ⟨b, o, none⟩) xs) : ∀ j u, (bvs xs)[j]? = some u → w.cell? ((⟨b, o, none⟩ : Addr).add j) = some u := by
  intro j u hj
  rw [add_lit]
  have hl : j < xs.length := by have := (List.getElem?_eq_some_iff.1 hj).1; simpa [bvs] using this
  obtain ⟨b', o', e, hc⟩ := h j hl
  cases e
  rw [hc]
  simpa [bvs, u8v, hl] using hj
theorem blk_cell {w : World} {g : Nat} {t : TypeId} {cs : Array Value} {f : Nat × Nat} (h : w.heap[g]? = some (.cells cs t f)) (i : Nat) : w.cell? ⟨g, i, none⟩ = cs[i]? := cell_of_row w g i cs t f h
theorem blk_set {w : World} {g : Nat} {t : TypeId} {cs : Array Value} {f : Nat × Nat} (h : w.heap[g]? = some (.cells cs t f)) (i : Nat) (u : Value) : (w.setCell ⟨g, i, none⟩ u).heap[g]? = some (.cells (cs.setIfInBounds i u) t f) := by
  simp [World.setCell, Array.getElem?_modify, h]
theorem blk_frozen {w : World} {g : Nat} {t : TypeId} {cs : Array Value} (h : w.heap[g]? = some (.cells cs t (0, 0))) (i : Nat) : w.frozen? ⟨g, i, none⟩ = false := by simp [World.frozen?, h]

theorem Bts.rd {w : World} {A : Option Addr} {n c : Nat} {xs : List UInt8} (h : Bts w (.slice A n c) xs) : n = xs.length ∧ n ≤ c ∧ c ≤ maxLen ∧ (A = none → c = 0) ∧ (0 < c → ∀ a, A = some a → a.spot = none ∧ a.block < w.heap.size) ∧ Rd w A xs := by
  obtain ⟨A', c', e, h⟩ := h
  cases e
  exact ⟨rfl, h⟩
end Go.Proofs.YtlhhcoijkjcneaaGreat
namespace Go.Proofs.YtlhhcoijkjcneaaGreat
open Go.RowKit

theorem infoU8 : (Tryz.prog.info? 5).map (fun i => (i.zero, i.size, i.bytes)) = some (some (.int .u8 0), 1, 1) := by kernel_rfl

theorem eqlBytes (w : World) (a : Option Addr) (n c n' c' : Nat) : (binOp .eql 38 (.slice a n c) (.slice none n' c')).run Tryz.prog w = .ok (.bool a.isNone) w :=
  Lib.run_eql_slice_nil w _ _ a n c n' c' Tryz.underlying38

set_option maxHeartbeats 1000000 in
theorem clone_nil (w : World) (n c : Nat) :
    Calls Tryz.prog 35 #[.slice none n c] w fun e w' => e = .returned (.slice none 0 0) ∧ w = w' := by
  have q := eqlBytes
  go_enter Tryz.func35, Tryz.ntmps35
  go_wp2
  go_ret
  exact ⟨rfl, rfl⟩

set_option maxHeartbeats 1000000 in
theorem clone_some (w : World) (ad : Addr) (c : Nat) (xs : List UInt8) (hl : xs.length ≤ 140737488355328) (hr : ∀ j u, (bvs xs)[j]? = some u → w.cell? (ad.add j) = some u) :
    Calls Tryz.prog 35 #[.slice (some ad) xs.length c] w fun e w' => ∃ v, e = .returned v ∧ Own w' w.heap.size v xs ∧ v ≠ .slice none 0 0 ∧ Below w.heap.size w w' := by
  have q := eqlBytes
  obtain ⟨i0, hi, hz0, hz1, hz2⟩ := info_parts infoU8
  have A := Sd.mk hr
  clear hr
  go_enter Tryz.func35, Tryz.ntmps35
  go_wp2_with (at_builtin; refine wpList_append_own _ rfl _ _ 38 rfl w.heap.size 5 i0 (.int .u8 0) 1 1 Tryz.underlying38 hi hz0 hz1 hz2 rfl (by decide) _ _ _ rfl (World.ownsRow_made w #[] 0 (Nat.le_refl _) (Nat.zero_le _) rfl) ad xs.length c (bvs xs) rfl ?qc1 ?qc2 ?qc3 ?qc4 ?qc5 ?qc6 ?_)
  case qc1 => simp [bvs]
  case qc2 => intro j u hj; exact Lib.cell?_alloc_some _ (A.o j u hj)
  case qc3 => exact bvs_one xs
  case qc4 => unfold maxLen; omega
  case qc5 => omega
  case qc6 => simp
  intro v' w1 hown hgrow hnil
  go_wp2
  go_ret
  refine ⟨v', rfl, ?_, ?_, ?_⟩
  · unfold Own; simpa using hown
  · exact hnil
  · exact ((Below.refl _ w).alloc (Nat.le_refl _) _).grown hgrow (by simp) (by intro k hk; simp [Value.ownBlock] at hk; omega)
end Go.Proofs.YtlhhcoijkjcneaaGreat
namespace Go.Proofs.YtlhhcoijkjcneaaGreat
open Go.RowKit

/-- The string of bytes. -/
def sOf (xs : List UInt8) : ByteArray := ⟨xs.toArray⟩
theorem sOf_inj {xs ys : List UInt8} (h : sOf xs = sOf ys) : xs = ys := by
  have : (sOf xs).data.toList = (sOf ys).data.toList := by rw [h]
  simpa [sOf] using this
theorem sOf_eq (s : ByteArray) : sOf s.data.toList = s := by simp [sOf]
theorem sOf_size (xs : List UInt8) : (sOf xs).size = xs.length := by simp [sOf, ByteArray.size]
theorem strOfNums_u8 (xs : List UInt8) : strOfNums (xs.map fun x => (x.toNat : Int)) = sOf xs := by
  unfold strOfNums sOf
  congr 1
  rw [List.map_map]
  have : (fun n : Int => UInt8.ofNat n.toNat) ∘ (fun x : UInt8 => (x.toNat : Int)) = id := by funext x; simp
  rw [this, List.map_id]

theorem conv_rd {P : Program} (w : World) (src e dst : TypeId) (hs : P.underlying src = some (.slice e)) (he : P.underlying e = some (.int .u8)) (hd : P.underlying dst = some .string)
    (A : Option Addr) (xs : List UInt8) (c : Nat) (h : Rd w A xs) : (convert src dst (.slice A xs.length c)).run P w = .ok (.string (sOf xs)) w := by
  cases xs with
  | nil =>
    cases A with
    | none => exact run_convert_bytes_nil w src e hs he _ c dst hd
    | some a =>
      rw [run_convert_bytes_string w src dst e _ _ c hs he hd]
      show (Conv.bytesToString (.slice (some a) 0 c)).run P w = _
      rw [run_bytesToString w a 0 c [] (by simp [loadCells, loadCellsFrom, Sem.run_pure])]
      rfl
  | cons x l =>
    obtain ⟨b, o, rfl, _⟩ := h 0 (by simp)
    rw [← strOfNums_u8]
    refine run_convert_bytes_arg w src e hs he b o _ c _ (by simp) (fun i hi => ?_) dst hd
    obtain ⟨b', o', e', hc⟩ := h i hi
    cases e'
    rw [hc, List.getD_eq_getElem?_getD, List.getElem?_map, List.getElem?_eq_getElem hi]
    rfl

/-- The address of a slice of a slice. -/
def cutA (A : Option Addr) (c lo : Nat) : Option Addr := if c = lo then A else A.map (·.add lo)
theorem slice_run {P : Program} (t e : TypeId) (kl kh : IntKind) {i : TypeInfo} (ht : P.underlying t = some (.slice e)) (hi : P.info? e = some i) (hsz : i.size = 1) (A : Option Addr) (n c lo hi' : Nat) (h1 : lo ≤ hi') (h2 : hi' ≤ c) (W : World) (l h : Int) (hl : l = lo) (hh : h = hi') :
    (Instr.slice t (.slice A n c) (some (.int kl l)) (some (.int kh h)) none).run P W = .ok (.slice (cutA A c lo) (hi' - lo) (c - lo)) W := by
  subst hl hh
  have hel : P.elem t = e := by simp [Program.elem, ht]
  have hu : P.underlying t = some (.slice (P.elem t)) := by rw [hel]; exact ht
  rw [run_slice_lh W t A n c hu kl kh lo hi' (by omega) (by omega) (by omega), hel]
  simp [sizeOf, typeInfo, hi, hsz, sliced, Result.andThen, cutA]
theorem slice_run_l {P : Program} (t e : TypeId) (kl : IntKind) {i : TypeInfo} (ht : P.underlying t = some (.slice e)) (hi : P.info? e = some i) (hsz : i.size = 1) (A : Option Addr) (n c lo : Nat) (h1 : lo ≤ n) (W : World) (l : Int) (hl : l = lo) :
    (Instr.slice t (.slice A n c) (some (.int kl l)) none none).run P W = .ok (.slice (cutA A c lo) (n - lo) (c - lo)) W := by
  subst hl
  have hel : P.elem t = e := by simp [Program.elem, ht]
  have hu : P.underlying t = some (.slice (P.elem t)) := by rw [hel]; exact ht
  rw [run_slice_l W t A n c hu kl lo (by omega) (by omega), hel]
  simp [sizeOf, typeInfo, hi, hsz, sliced, Result.andThen, cutA]
theorem slice_run_h {P : Program} (t e : TypeId) (kh : IntKind) {i : TypeInfo} (ht : P.underlying t = some (.slice e)) (hi : P.info? e = some i) (hsz : i.size = 1) (A : Option Addr) (n c hi' : Nat) (hA : 0 < c → ∀ a, A = some a → a.spot = none) (h2 : hi' ≤ c) (W : World) (h : Int) (hh : h = hi') :
    (Instr.slice t (.slice A n c) none (some (.int kh h)) none).run P W = .ok (.slice A hi' c) W := by
  subst hh
  have hel : P.elem t = e := by simp [Program.elem, ht]
  have hu : P.underlying t = some (.slice (P.elem t)) := by rw [hel]; exact ht
  rw [run_slice_h W t A n c hu kh hi' (by omega) (by omega), hel]
  cases A with
  | none => simp [sizeOf, typeInfo, hi, hsz, sliced, Result.andThen]
  | some a =>
    have : 0 < c → a.add 0 = a := fun hc => by
      obtain ⟨b, o, s⟩ := a
      have := hA hc _ rfl
      simp only at this
      subst this
      rw [add_lit]; rfl
    by_cases hc : c = 0
    · simp [sizeOf, typeInfo, hi, hsz, sliced, Result.andThen, hc]
    · simp [sizeOf, typeInfo, hi, hsz, sliced, Result.andThen, this (by omega), hc]
theorem Rd.cut {w : World} {A : Option Addr} {xs : List UInt8} (h : Rd w A xs) (c lo hi : Nat) (h1 : lo ≤ hi) (h2 : hi ≤ xs.length) (hc : xs.length ≤ c) : Rd w (cutA A c lo) ((xs.drop lo).take (hi - lo)) := by
  intro i hi'
  simp only [List.length_take, List.length_drop] at hi'
  obtain ⟨b, o, rfl, hcell⟩ := h (lo + i) (by omega)
  have hne : c ≠ lo := by omega
  refine ⟨b, o + lo, by simp [cutA, hne, add_lit], ?_⟩
  rw [show o + lo + i = o + (lo + i) by omega, hcell]
  simp
theorem Rd.take {w : World} {A : Option Addr} {xs : List UInt8} (h : Rd w A xs) (n : Nat) : Rd w A (xs.take n) := by
  intro i hi'
  simp only [List.length_take] at hi'
  obtain ⟨b, o, rfl, hcell⟩ := h i (by omega)
  exact ⟨b, o, rfl, by rw [hcell]; simp⟩
theorem Bts.cut {w : World} {A : Option Addr} {xs : List UInt8} {n c : Nat} (h : Bts w (.slice A n c) xs) (lo hi : Nat) (h1 : lo ≤ hi) (h2 : hi ≤ xs.length) : Bts w (.slice (cutA A c lo) (hi - lo) (c - lo)) ((xs.drop lo).take (hi - lo)) := by
  obtain ⟨rfl, hc, hm, hn, hsp, hr⟩ := h.rd
  have hl : ((xs.drop lo).take (hi - lo)).length = hi - lo := by simp; omega
  refine ⟨_, c - lo, by rw [hl], by omega, by omega, fun e => ?_, fun hcp a ha => ?_, hr.cut c lo hi h1 h2 hc⟩
  · cases A with
    | none => have := hn rfl; omega
    | some a => by_cases hcl : c = lo <;> simp [cutA, hcl] at e
  · cases A with
    | none => by_cases hcl : c = lo <;> simp [cutA, hcl] at ha
    | some a' =>
      have := hsp (by omega) a' rfl
      by_cases hcl : c = lo
      · simp [cutA, hcl] at ha; subst ha; exact this
      · simp [cutA, hcl] at ha
        subst ha
        obtain ⟨b, o, s⟩ := a'
        obtain ⟨rfl, hb⟩ := this
        rw [add_lit]; exact ⟨rfl, hb⟩
theorem cutA_own {A : Option Addr} {c lo n m k : Nat} : (Value.slice (cutA A c lo) n m).ownBlock = (Value.slice A k c).ownBlock := by
  unfold cutA
  split
  · cases A <;> rfl
  · cases A with
    | none => rfl
    | some a => simp [Value.ownBlock]; unfold Addr.add; split <;> rfl
theorem OffR.cut {F : Nat → Prop} {A : Option Addr} {c lo n m k : Nat} (h : OffR F (.slice A k c)) (hm : m ≤ c) : OffR F (.slice (cutA A c lo) n m) := by
  intro a n' c' e hc
  cases A with
  | none => simp [cutA] at e
  | some a' =>
    injection e with e1 e2 e3
    have hb : a.block = a'.block := by
      unfold cutA at e1
      split at e1
      · injection e1 with e1; rw [e1]
      · simp at e1; rw [← e1]; unfold Addr.add; split <;> rfl
    rw [hb]
    exact h a' k c rfl (by omega)
theorem Off.cut {F : Nat → Prop} {A : Option Addr} {c lo n m k : Nat} (h : Off F (.slice A k c)) : Off F (.slice (cutA A c lo) n m) := by
  intro b hb; rw [cutA_own (k := k)] at hb; exact h b hb
theorem Bts.drop {w : World} {A : Option Addr} {xs : List UInt8} {n c : Nat} (h : Bts w (.slice A n c) xs) (lo : Nat) (h1 : lo ≤ xs.length) : Bts w (.slice (cutA A c lo) (n - lo) (c - lo)) (xs.drop lo) := by
  have e := h.rd.1
  have := h.cut lo xs.length h1 (Nat.le_refl _)
  rw [e]
  rwa [List.take_of_length_le (by simp)] at this
theorem Bts.take {w : World} {A : Option Addr} {xs : List UInt8} {n c : Nat} (h : Bts w (.slice A n c) xs) (m : Nat) (h1 : m ≤ xs.length) : Bts w (.slice A m c) (xs.take m) := by
  obtain ⟨rfl, hc, hm, hn, hsp, hr⟩ := h.rd
  have hl : (xs.take m).length = m := by simp; omega
  exact ⟨A, c, by rw [hl], by omega, hm, hn, hsp, hr.take m⟩
end Go.Proofs.YtlhhcoijkjcneaaGreat
namespace Go.Proofs.YtlhhcoijkjcneaaGreat
open Go.RowKit Go.Lib

def ownB (v : Value) : Nat → Prop := fun k => v.ownBlock = some k
/-- v' lies where v lay, or in a block that came later. -/
def Grew (w : World) (v v' : Value) : Prop := ∀ k, v'.ownBlock = some k → v.ownBlock = some k ∨ w.heap.size ≤ k
theorem Grew.refl (w : World) (v : Value) : Grew w v v := fun _ h => .inl h
theorem Grew.trans {w w' : World} {a b c : Value} (h : Grew w a b) (k : Grew w' b c) (hs : w.heap.size ≤ w'.heap.size) : Grew w a c := fun i hi => by
  rcases k i hi with h1 | h1
  · exact h i h1
  · exact .inr (Nat.le_trans hs h1)

/-- The values lie from A on. -/
def VRd (w : World) (A : Option Addr) (vs : List Value) : Prop :=
  ∀ i (h : i < vs.length), ∃ b o, A = some ⟨b, o, none⟩ ∧ w.cell? ⟨b, o + i, none⟩ = some vs[i]
theorem VRd.below {w w' : World} {A : Option Addr} {vs : List Value} (h : VRd w A vs) (k : Below w.heap.size w w') : VRd w' A vs := fun i hi => by
  obtain ⟨b, o, e, hc⟩ := h i hi
  exact ⟨b, o, e, by rw [k.cell (World.block_lt_of_cell? w _ hc)]; exact hc⟩
theorem VRd.keeps {F : Nat → Prop} {w w' : World} {A : Option Addr} {vs : List Value} (h : VRd w A vs) (k : Keeps F w w') (hF : ∀ b o s, A = some ⟨b, o, s⟩ → ¬ F b) : VRd w' A vs := fun i hi => by
  obtain ⟨b, o, e, hc⟩ := h i hi
  exact ⟨b, o, e, k.cell hc (hF _ _ _ e)⟩
theorem VRd.news {w : World} {b o : Nat} {vs : List Value} (h : VRd w (some ⟨b, o, none⟩) vs) : ∀ j u, vs[j]? = some u → w.cell? ((⟨b, o, none⟩ : Addr).add j) = some u := by
  intro j u hj
  rw [add_lit]
  obtain ⟨hl, rfl⟩ := List.getElem?_eq_some_iff.1 hj
  obtain ⟨b', o', e, hc⟩ := h j hl
  cases e
  exact hc
theorem rd_vrd {w : World} {A : Option Addr} {xs : List UInt8} (h : Rd w A xs) : VRd w A (bvs xs) := fun i hi => by
  have hi' : i < xs.length := by simpa [bvs] using hi
  obtain ⟨b, o, e, hc⟩ := h i hi'
  exact ⟨b, o, e, by rw [hc]; simp [bvs, u8v]⟩

/-- An owned row of one-cell values of type e. -/
def OwnV (w : World) (e : TypeId) (v : Value) (vs : List Value) : Prop := w.ownsRow 0 e 1 v vs.length vs
theorem OwnV.keeps {F : Nat → Prop} {w w' : World} {e : TypeId} {v : Value} {vs : List Value} (h : OwnV w e v vs) (k : Keeps F w w') (hF : Off F v) : OwnV w' e v vs := by
  obtain ⟨h1, h2⟩ := h
  refine ⟨h1, ?_⟩
  rcases h2 with h2 | ⟨g, cap, cur, rfl, hb, hg, r⟩
  · exact .inl h2
  · exact .inr ⟨g, cap, cur, rfl, hb, k.obj hg (hF g rfl), r⟩
theorem OwnV.lt {w : World} {e : TypeId} {v : Value} {vs : List Value} (h : OwnV w e v vs) : ∀ k, v.ownBlock = some k → k < w.heap.size := fun k hk => (World.ownsRow.lt h k hk).2
theorem OwnV.slice {w : World} {e : TypeId} {v : Value} {vs : List Value} (h : OwnV w e v vs) : ∃ A c, v = .slice A vs.length c := by
  rcases h.2 with ⟨rfl, hn⟩ | ⟨g, cap, cur, rfl, _⟩
  · exact ⟨none, 0, by rw [hn]⟩
  · exact ⟨_, _, rfl⟩
theorem OwnV.vrd {w : World} {e : TypeId} {A : Option Addr} {n c : Nat} {vs : List Value} (h : OwnV w e (.slice A n c) vs) : n = vs.length ∧ n ≤ c ∧ c ≤ maxLen ∧ (A = none → c = 0) ∧ (∀ a, A = some a → a.spot = none ∧ a.block < w.heap.size) ∧ VRd w A vs := by
  obtain ⟨h1, h2⟩ := h
  rcases h2 with ⟨e0, hn⟩ | ⟨g, cap, cur, e0, hb, hg, hn, hc, hs, ht⟩
  · cases e0
    have : vs = [] := List.eq_nil_of_length_eq_zero hn
    subst this
    exact ⟨rfl, Nat.le_refl _, Nat.zero_le _, fun _ => rfl, (fun a ha => by cases ha), (fun i hi => by simp at hi)⟩
  · cases e0
    refine ⟨rfl, hn, hc, (fun e => by cases e), (fun a ha => by cases ha; exact ⟨rfl, (Array.getElem?_eq_some_iff.1 hg).1⟩), fun i hi => ⟨g, 0, rfl, ?_⟩⟩
    rw [cell_of_row w g (0 + i) cur _ (0, 0) hg]
    have h3 : vs[i]? = some vs[i] := by simp [hi]
    have h4 : (cur.toList.take (vs.length * 1))[i]? = some vs[i] := by rw [ht]; exact h3
    rw [List.getElem?_take] at h4
    split at h4
    · simpa using h4
    · cases h4
theorem Own.v {w : World} {base : Nat} {v : Value} {xs : List UInt8} (h : Own w base v xs) : OwnV w 5 v (bvs xs) := by
  unfold OwnV
  rw [bvs_length]
  exact Own.less h (Nat.zero_le _)
theorem OwnV.own {w : World} {v : Value} {xs : List UInt8} (h : OwnV w 5 v (bvs xs)) : Own w 0 v xs := by
  unfold OwnV at h
  rw [bvs_length] at h
  exact h

theorem Keeps.grow {w w1 w2 : World} {v v1 : Value} (h : Keeps (ownB v) w w1) (g : Grew w v v1) (k : Keeps (ownB v1) w1 w2) : Keeps (ownB v) w w2 :=
  h.trans k (fun _ _ f => f) (fun i hi f => by
    rcases g i f with h1 | h1
    · exact h1
    · omega)
theorem Grew.grow {w w1 : World} {v v1 v2 : Value} {F : Nat → Prop} (g : Grew w v v1) (h : Keeps F w w1) (g2 : Grew w1 v1 v2) : Grew w v v2 := g.trans g2 h.size
theorem new_one {w : World} {u : Value} {e : TypeId} {j : Nat} {x : Value} (h : [u][j]? = some x) : (w.alloc (.cells #[u] e)).cell? ((⟨w.heap.size, 0, none⟩ : Addr).add j) = some x := by
  cases j with
  | zero =>
    simp at h
    subst h
    rw [add_lit, blk_cell (heap_alloc_new w _)]
    rfl
  | succ j => simp at h
theorem one1 {k : IntKind} {n : Int} : ∀ u ∈ [Value.int k n], u.oneCell' = true := by intro u hu; simp at hu; subst hu; rfl
theorem Keeps.undoalloc {w w' : World} {o : Obj} {F : Nat → Prop} (h : Keeps F (w.alloc o) w') : Keeps F w w' :=
  ((Keeps.refl F w).alloc o).trans h (fun _ _ f => f) (fun _ _ f => f)
theorem Grew.undoalloc {w : World} {o : Obj} {v v' : Value} (h : Grew (w.alloc o) v v') : Grew w v v' := fun k hk => (h k hk).imp id (fun h => by simp at h; omega)
/-- It lies in no block of w. -/
def Fresh (w : World) (v : Value) : Prop := ∀ k, v.ownBlock = some k → w.heap.size ≤ k
theorem Fresh.grew {w w1 : World} {v v' : Value} (h : Fresh w v) (hs : w.heap.size ≤ w1.heap.size) (g : Grew w1 v v') : Fresh w v' := fun k hk => by
  rcases g k hk with h1 | h1
  · exact h k h1
  · exact Nat.le_trans hs h1
theorem Keeps.fresh {w w1 w2 : World} {v : Value} {F : Nat → Prop} (h : Keeps F w w1) (f : Fresh w v) (k : Keeps (ownB v) w1 w2) : Keeps F w w2 :=
  h.trans k (fun _ _ f => f) (fun i hi g => absurd (f i g) (by omega))
theorem Keeps.then {w w1 w2 : World} {F : Nat → Prop} (h : Keeps F w w1) (k : Keeps NoB w1 w2) : Keeps F w w2 := h.trans k (fun _ _ f => f) (fun _ _ f => f.elim)
theorem own_lit (w : World) (e : TypeId) (vs : List Value) (hn : vs.length ≤ 9223372036854775807) : OwnV (w.alloc (.cells vs.toArray e)) e (.slice (some ⟨w.heap.size, 0, none⟩) vs.length vs.length) vs :=
  ⟨by simp, .inr ⟨w.heap.size, vs.length, vs.toArray, rfl, Nat.zero_le _, heap_alloc_new w _, Nat.le_refl _, by unfold maxLen; exact hn, by simp, by simp⟩⟩
theorem fresh_lit (w : World) (n c : Nat) : Fresh w (.slice (some ⟨w.heap.size, 0, none⟩) n c) := fun k hk => by simp [Value.ownBlock] at hk; omega
section
variable {P : Program} {w : World} {ops : Array Oper} {rest : List Oper} {o : Oper} {a : Act} {Q : Exit → Act → World → Prop}
/-- append of one-cell values onto an owned row. -/
theorem app_row (hgd : o.guard = none) (s x : Operand) (t e : TypeId) (z : Value) (bytes : Nat) (ho : o.op = .call { callee := .builtin .append, args := #[s, x], argTypes := #[t, t] })
    (ht : P.underlying t = some (.slice e)) (hi : (P.info? e).map (fun i => (i.zero, i.size, i.bytes)) = some (some z, 1, bytes)) (hzs : z.cells.size = 1)
    (v : Value) (vs : List Value) (hs : a.eval s = v) (hown : OwnV w e v vs)
    (ad : Addr) (m c : Nat) (news : List Value) (hx : a.eval x = .slice (some ad) m c) (hl : news.length = m) (hnews : ∀ j u, news[j]? = some u → w.cell? (ad.add j) = some u) (h1 : ∀ u ∈ news, u.oneCell' = true)
    (h63 : vs.length + m ≤ 9223372036854775807) (hbytes : (vs.length + m) * bytes ≤ 140737488355328)
    (h : ∀ A' c' w', OwnV w' e (.slice A' (vs.length + m) c') (vs ++ news) → Keeps (ownB v) w w' → Grew w v (.slice A' (vs.length + m) c') → wpList P ops Q rest (a.put o.dst (.slice A' (vs.length + m) c')) w') : wpList P ops Q (o :: rest) a w := by
  obtain ⟨i0, hi', hz0, hz1, hz2⟩ := info_parts hi
  refine wpList_plain hgd fun K hK => ?_
  obtain ⟨v', w', hr, h2, h3, _, h5⟩ := run_append_own_at (P := P) w 0 t o.type e i0 z 1 bytes ht hi' hz0 hz1 hz2 hzs (by decide) v vs.length vs hown ad m c news (by omega) hnews h1 (by unfold maxLen; omega) hbytes (Nat.zero_le _)
  unfold Oper.wp execOp
  simp only [ho, resolve, invoke, builtin, Sem.run_bind, Sem.run_pure, Result.andThen_ok, List.map_toArray, List.map_cons, List.map_nil, hs, hx, hr]
  have e1 : (vs ++ news).length = vs.length + m := by simp; omega
  have h2' : OwnV w' e v' (vs ++ news) := by unfold OwnV; rw [e1]; exact h2
  obtain ⟨A', c', rfl⟩ := h2'.slice
  rw [e1] at h2' h5 ⊢
  refine hK _ _ (h A' c' w' h2' (Keeps.of_grown h3 (fun b hb _ => hb)) ?_)
  intro k hk
  rcases h5 with h5 | h5
  · rw [h5] at hk; exact .inl hk
  · rw [h5] at hk; cases hk; exact .inr (Nat.le_refl _)

theorem run_append_none {P : Program} (w : World) (t ty e : TypeId) (i : TypeInfo) (ht : P.underlying t = some (.slice e)) (hi : P.info? e = some i) (A : Option Addr) (n cap c : Nat) (hn : n ≤ cap) :
    (Builtin.append_ #[t, t] ty #[.slice A n cap, .slice none 0 c]).run P w = .ok (.slice A n cap) w := by
  cases A with
  | none => simp [Builtin.append_, run_underlying ht, sizeOf, typeInfo, hi, Builtin.lenOf, Builtin.firstCells, hn]
  | some a => simp [Builtin.append_, run_underlying ht, sizeOf, typeInfo, hi, Builtin.lenOf, Builtin.firstCells, hn, storeCells]
/-- append of what a slice reads as, nil let in. -/
theorem app_any (hgd : o.guard = none) (s x : Operand) (t e : TypeId) (z : Value) (bytes : Nat) (ho : o.op = .call { callee := .builtin .append, args := #[s, x], argTypes := #[t, t] })
    (ht : P.underlying t = some (.slice e)) (hi : (P.info? e).map (fun i => (i.zero, i.size, i.bytes)) = some (some z, 1, bytes)) (hzs : z.cells.size = 1)
    (v : Value) (vs : List Value) (hs : a.eval s = v) (hown : OwnV w e v vs)
    (B : Option Addr) (m c : Nat) (news : List Value) (hx : a.eval x = .slice B m c) (hl : news.length = m) (hnews : VRd w B news) (h1 : ∀ u ∈ news, u.oneCell' = true)
    (h63 : vs.length + m ≤ 9223372036854775807) (hbytes : (vs.length + m) * bytes ≤ 140737488355328)
    (h : ∀ A' c' w', OwnV w' e (.slice A' (vs.length + m) c') (vs ++ news) → Keeps (ownB v) w w' → Grew w v (.slice A' (vs.length + m) c') → wpList P ops Q rest (a.put o.dst (.slice A' (vs.length + m) c')) w') : wpList P ops Q (o :: rest) a w := by
  cases B with
  | some ad =>
    have hn : ∀ j u, news[j]? = some u → w.cell? (ad.add j) = some u := by
      cases news with
      | nil => intro j u hj; simp at hj
      | cons x l =>
        obtain ⟨b, o, e, _⟩ := hnews 0 (by simp)
        cases e
        exact hnews.news
    exact app_row hgd s x t e z bytes ho ht hi hzs v vs hs hown ad m c news hx hl hn h1 h63 hbytes h
  | none =>
    have hm : news = [] := by
      cases news with
      | nil => rfl
      | cons u l => obtain ⟨b, o, e, _⟩ := hnews 0 (by simp); cases e
    subst hm
    subst hl
    obtain ⟨i0, hi', hz0, hz1, hz2⟩ := info_parts hi
    refine wpList_plain hgd fun K hK => ?_
    obtain ⟨A, cc, rfl⟩ := hown.slice
    have hr := run_append_none (P := P) w t o.type e i0 ht hi' A vs.length cc c hown.vrd.2.1
    unfold Oper.wp execOp
    simp only [List.length_nil] at hx
    simp only [ho, resolve, invoke, builtin, Sem.run_bind, Sem.run_pure, Result.andThen_ok, List.map_toArray, List.map_cons, List.map_nil, hs, hx, hr]
    exact hK _ _ (h A cc w (by simpa using hown) (Keeps.refl _ _) (Grew.refl _ _))
theorem wp_app_any {K : Act → World → Prop} (s x : Operand) (t e : TypeId) (z : Value) (bytes : Nat) (ho : o.op = .call { callee := .builtin .append, args := #[s, x], argTypes := #[t, t] })
    (ht : P.underlying t = some (.slice e)) (hi : (P.info? e).map (fun i => (i.zero, i.size, i.bytes)) = some (some z, 1, bytes)) (hzs : z.cells.size = 1)
    (v : Value) (vs : List Value) (hs : a.eval s = v) (hown : OwnV w e v vs)
    (B : Option Addr) (m c : Nat) (news : List Value) (hx : a.eval x = .slice B m c) (hl : news.length = m) (hnews : VRd w B news) (h1 : ∀ u ∈ news, u.oneCell' = true)
    (h63 : vs.length + m ≤ 9223372036854775807) (hbytes : (vs.length + m) * bytes ≤ 140737488355328)
    (h : ∀ A' c' w', OwnV w' e (.slice A' (vs.length + m) c') (vs ++ news) → Keeps (ownB v) w w' → Grew w v (.slice A' (vs.length + m) c') → K (a.put o.dst (.slice A' (vs.length + m) c')) w') : o.wp P a w K Q := by
  obtain ⟨i0, hi', hz0, hz1, hz2⟩ := info_parts hi
  have hrun : ∃ A' c' w', (Builtin.append_ #[t, t] o.type #[v, .slice B m c]).run P w = .ok (.slice A' (vs.length + m) c') w' ∧ OwnV w' e (.slice A' (vs.length + m) c') (vs ++ news) ∧ Keeps (ownB v) w w' ∧ Grew w v (.slice A' (vs.length + m) c') := by
    cases B with
    | some ad =>
      have hn : ∀ j u, news[j]? = some u → w.cell? (ad.add j) = some u := by
        cases news with
        | nil => intro j u hj; simp at hj
        | cons x l =>
          obtain ⟨b, o, e, _⟩ := hnews 0 (by simp)
          cases e
          exact hnews.news
      obtain ⟨v', w', hr, h2, h3, _, h5⟩ := run_append_own_at (P := P) w 0 t o.type e i0 z 1 bytes ht hi' hz0 hz1 hz2 hzs (by decide) v vs.length vs hown ad m c news (by omega) hn h1 (by unfold maxLen; omega) hbytes (Nat.zero_le _)
      have e1 : (vs ++ news).length = vs.length + m := by simp; omega
      have h2' : OwnV w' e v' (vs ++ news) := by unfold OwnV; rw [e1]; exact h2
      obtain ⟨A', c', rfl⟩ := h2'.slice
      rw [e1] at h2' h5 hr
      refine ⟨A', c', w', hr, h2', Keeps.of_grown h3 (fun b hb _ => hb), fun k hk => ?_⟩
      rcases h5 with h5 | h5
      · rw [h5] at hk; exact .inl hk
      · rw [h5] at hk; cases hk; exact .inr (Nat.le_refl _)
    | none =>
      have hm : news = [] := by
        cases news with
        | nil => rfl
        | cons u l => obtain ⟨b, o, e, _⟩ := hnews 0 (by simp); cases e
      subst hm
      subst hl
      obtain ⟨A, cc, rfl⟩ := hown.slice
      exact ⟨A, cc, w, run_append_none (P := P) w t o.type e i0 ht hi' A vs.length cc c hown.vrd.2.1, by simpa using hown, Keeps.refl _ _, Grew.refl _ _⟩
  obtain ⟨A', c', w', hr, h2, h3, h4⟩ := hrun
  unfold Oper.wp execOp
  simp only [ho, resolve, invoke, builtin, Sem.run_bind, Sem.run_pure, Result.andThen_ok, List.map_toArray, List.map_cons, List.map_nil, hs, hx, hr]
  exact h A' c' w' h2 h3 h4
theorem step_app_any {K : Act → World → Prop} {E : Prop} (hgd : o.guard = none) (s x : Operand) (t e : TypeId) (z : Value) (bytes : Nat) (ho : o.op = .call { callee := .builtin .append, args := #[s, x], argTypes := #[t, t] })
    (ht : P.underlying t = some (.slice e)) (hi : (P.info? e).map (fun i => (i.zero, i.size, i.bytes)) = some (some z, 1, bytes)) (hzs : z.cells.size = 1)
    (v : Value) (vs : List Value) (hs : a.eval s = v) (hown : OwnV w e v vs)
    (B : Option Addr) (m c : Nat) (news : List Value) (hx : a.eval x = .slice B m c) (hl : news.length = m) (hnews : VRd w B news) (h1 : ∀ u ∈ news, u.oneCell' = true)
    (h63 : vs.length + m ≤ 9223372036854775807) (hbytes : (vs.length + m) * bytes ≤ 140737488355328)
    (h : ∀ A' c' w', OwnV w' e (.slice A' (vs.length + m) c') (vs ++ news) → Keeps (ownB v) w w' → Grew w v (.slice A' (vs.length + m) c') → K (a.put o.dst (.slice A' (vs.length + m) c')) w') : if Region.wanted o (yielded ops a.tmps) = true then o.wp P a w K Q else E := by
  have hw : Region.wanted o (yielded ops a.tmps) = true := by simp [Region.wanted, hgd]
  rw [if_pos hw]
  exact wp_app_any s x t e z bytes ho ht hi hzs v vs hs hown B m c news hx hl hnews h1 h63 hbytes h
theorem strCells_bvs (s : ByteArray) : strCells s = bvs s.data.toList := rfl
/-- append of a text onto an owned row of bytes. -/
theorem app_str (hgd : o.guard = none) (sl x : Operand) (t u e : TypeId) (ho : o.op = .call { callee := .builtin .append, args := #[sl, x], argTypes := #[t, u] })
    (ht : P.underlying t = some (.slice e)) (hu : P.underlying u = some .string) (hi : (P.info? e).map (fun i => (i.zero, i.size, i.bytes)) = some (some (.int .u8 0), 1, 1))
    (v : Value) (vs : List Value) (hs : a.eval sl = v) (hown : OwnV w e v vs) (s : ByteArray) (hx : a.eval x = .string s)
    (hb : vs.length + s.size ≤ 140737488355328)
    (h : ∀ A' c' w', OwnV w' e (.slice A' (vs.length + s.size) c') (vs ++ bvs s.data.toList) → Keeps (ownB v) w w' → Grew w v (.slice A' (vs.length + s.size) c') → wpList P ops Q rest (a.put o.dst (.slice A' (vs.length + s.size) c')) w') : wpList P ops Q (o :: rest) a w := by
  obtain ⟨i0, hi', hz0, hz1, hz2⟩ := info_parts hi
  refine wpList_plain hgd fun K hK => ?_
  have hsz : (bvs s.data.toList).length = s.size := by rw [bvs_length]; exact Array.length_toList
  obtain ⟨v', w', hr, h2, h3, h4⟩ := run_append_own_string (P := P) w 0 t u o.type e i0 ht hu hi' hz0 hz1 hz2 v vs.length vs hown s (by unfold maxLen; omega) hb (Nat.zero_le _)
  have h5 : v'.ownBlock = v.ownBlock ∨ v'.ownBlock = some w.heap.size := by
    rcases hown.2 with ⟨rfl, hn⟩ | ⟨g, cap, cur, rfl, hbg, hg, hnc, hcm, hcs, htake⟩
    · by_cases hm : s.size = 0
      · have := h4.2 ⟨rfl, hm⟩
        rw [this]; exact .inl rfl
      · have hr2 := run_append_nil_string (P := P) w t u o.type e i0 (.int .u8 0) ht hu hi' hz0 s (by omega) (by omega) (by rw [hz2]; omega)
        rw [hr] at hr2
        injection hr2 with hv _
        rw [hv]; exact .inr rfl
    · by_cases hroom : vs.length + s.size ≤ cap
      · have hcs' : cur.size = cap := by simpa using hcs
        have hr2 := run_append_room_string (P := P) w t u o.type e i0 ht hu hi' hz1 g vs.length cap cur hg s hroom (by omega)
        rw [hr] at hr2
        injection hr2 with hv _
        rw [hv]; exact .inl rfl
      · have holds : ∀ j u, vs[j]? = some u → w.cell? ((⟨g, 0, none⟩ : Addr).add j) = some u := World.ownsRow.cells hown (g := g) rfl
        have hr2 := run_append_grow_string (P := P) w t u o.type e i0 (.int .u8 0) ht hu hi' hz0 ⟨g, 0, none⟩ vs.length cap vs (by rw [hz1]; simp) holds s (by omega) (by omega) (by rw [hz2]; exact growslice_fits (by omega) (by omega))
        rw [hr] at hr2
        injection hr2 with hv _
        rw [hv]; exact .inr rfl
  unfold Oper.wp execOp
  simp only [ho, resolve, invoke, builtin, Sem.run_bind, Sem.run_pure, Result.andThen_ok, List.map_toArray, List.map_cons, List.map_nil, hs, hx, hr]
  have e1 : (vs ++ bvs s.data.toList).length = vs.length + s.size := by rw [List.length_append, hsz]
  have h2' : OwnV w' e v' (vs ++ bvs s.data.toList) := by unfold OwnV; rw [e1]; exact h2
  obtain ⟨A', c', rfl⟩ := h2'.slice
  rw [e1] at h2' h5 ⊢
  refine hK _ _ (h A' c' w' h2' (Keeps.of_grown h3 (fun b hb _ => hb)) ?_)
  intro k hk
  rcases h5 with h5 | h5
  · rw [h5] at hk; exact .inl hk
  · rw [h5] at hk; cases hk; exact .inr (Nat.le_refl _)
end
theorem infoU8' : (Tryz.prog.info? 5).map (fun i => (i.zero, i.size, i.bytes)) = some (some (.int .u8 0), 1, 1) := by kernel_rfl
def strs (l : List (List UInt8)) : List Value := l.map fun s => Value.string (sOf s)
theorem strs_len (l : List (List UInt8)) : (strs l).length = l.length := by simp [strs]
end Go.Proofs.YtlhhcoijkjcneaaGreat
namespace Go.Proofs.YtlhhcoijkjcneaaGreat
open Go.RowKit

/-- A world in which the blocks of w0 are as they were. -/
structure After (w0 : World) where
  w : World
  k : Keeps NoB w0 w
instance After.here {w0 : World} : Nonempty (After w0) := ⟨⟨w0, Keeps.refl _ _⟩⟩
theorem After.cell {w0 : World} (x : After w0) {a : Addr} {v : Value} (h : w0.cell? a = some v) : x.w.cell? a = some v := x.k.cell h (fun f => f)
theorem Calls.after {P : Program} {f : FuncId} {args : Array Value} {w0 : World} {x : After w0} {v : Value}
    (h : Calls P f args x.w fun e w' => e = .returned v ∧ Keeps NoB x.w w') : Calls P f args x.w fun e w'' => e = .returned v ∧ ∃ y : After w0, w'' = y.w :=
  h.mono fun _ w' ⟨he, hk⟩ => ⟨he, ⟨w', x.k.trans hk (fun _ _ f => f) (fun _ _ f => f)⟩, rfl⟩
theorem Calls.after_same {P : Program} {f : FuncId} {args : Array Value} {w0 : World} {x : After w0} {v : Value}
    (h : Calls P f args x.w fun e w' => e = .returned v ∧ x.w = w') : Calls P f args x.w fun e w'' => e = .returned v ∧ ∃ y : After w0, w'' = y.w :=
  h.mono fun _ _ ⟨he, hk⟩ => ⟨he, x, hk.symm⟩
theorem Calls.after_drew {P : Program} {f : FuncId} {args : Array Value} {w0 : World} {x : After w0} {v : Value}
    (h : Calls P f args x.w fun e w' => e = .returned v ∧ ∃ n, w' = x.w.drewN n) : Calls P f args x.w fun e w'' => e = .returned v ∧ ∃ y : After w0, w'' = y.w :=
  h.mono fun _ _ ⟨he, n, hk⟩ => ⟨he, ⟨_, x.k.drewN n⟩, hk⟩
theorem wp_region_after {P : Program} {id : Nat} {Q : Exit → Act → World → Prop} {a : Act} {w : World} {l : List Oper} (w0 : World) (hw : Keeps NoB w0 w) (hm : P.follows .mixedOrders = true) (hB : Region.lexB .any l.toArray = true)
    (h : wpQuiet P l.toArray (fun w' => ∃ x : After w0, w' = x.w) (fun a' => ∀ w', (∃ x : After w0, w' = x.w) → Q .normal a' w') l a) : (Code.region id l.toArray true).wp P Q a w :=
  wp_region_quiet (C := fun w' => ∃ x : After w0, w' = x.w) hm hB ⟨⟨_, hw.drew⟩, rfl⟩ (by simpa using h)
end Go.Proofs.YtlhhcoijkjcneaaGreat
