/- Words for worlds, bytes and rows: what stays as it was, what a slice reads as. Plain lemmas over the model; no program's function. -/
import Derived.WalkKit
import Derived.WalkSpells
import Derived.WalkLawsBesides
import Derived.Deep.QuietTactic
import Derived.BigQuiet
import Derived.Deep.LoopGhost
import Derived.Lib.SliceRun
import Derived.Lib.Hide
import Derived.Test.YtdjamijbhaplgaaGreatRows
import Derived.Laws.Bits64
namespace Go.Proofs.YtdjamijbhaplgaaGreat
open Go.RowKit

/-- A fact laid aside: the walk's simp does not look into it. -/
structure Sd (p : Prop) : Prop where
  mk :: (o : p)

/-- Blocks outside F stay as they were; new blocks may come. -/
structure Keeps (F : Nat → Prop) (w w' : World) : Prop where
  os : w'.os = w.os
  tape : w'.tape = w.tape
  output : w'.output = w.output
  size : w.heap.size ≤ w'.heap.size
  block : ∀ k, k < w.heap.size → ¬ F k → w'.heap[k]? = w.heap[k]?

def NoB : Nat → Prop := fun _ => False
def OneB (b : Nat) : Nat → Prop := fun k => k = b
def FromB (b : Nat) : Nat → Prop := fun k => b ≤ k

theorem Keeps.refl (F : Nat → Prop) (w : World) : Keeps F w w := ⟨rfl, rfl, rfl, Nat.le_refl _, fun _ _ _ => rfl⟩
theorem Keeps.trans {F G H : Nat → Prop} {a b c : World} (h : Keeps F a b) (k : Keeps G b c)
    (hF : ∀ i, i < a.heap.size → F i → H i) (hG : ∀ i, i < a.heap.size → G i → H i) : Keeps H a c :=
  ⟨k.os.trans h.os, k.tape.trans h.tape, k.output.trans h.output, Nat.le_trans h.size k.size,
   fun i hi hn => (k.block i (Nat.lt_of_lt_of_le hi h.size) (fun g => hn (hG i hi g))).trans (h.block i hi (fun f => hn (hF i hi f)))⟩
theorem Keeps.mono {F G : Nat → Prop} {a b : World} (h : Keeps F a b) (hF : ∀ i, i < a.heap.size → F i → G i) : Keeps G a b :=
  ⟨h.os, h.tape, h.output, h.size, fun i hi hn => h.block i hi (fun f => hn (hF i hi f))⟩
theorem Keeps.of_below {w w' : World} (h : Below w.heap.size w w') (F : Nat → Prop) : Keeps F w w' :=
  ⟨h.os, h.tape, h.output, h.size, fun k hk _ => h.block k hk⟩
theorem Keeps.below {F : Nat → Prop} {w w' : World} (h : Keeps F w w') (hF : ∀ i, i < w.heap.size → ¬ F i) : Below w.heap.size w w' :=
  ⟨h.os, h.tape, h.output, h.size, fun k hk => h.block k hk (hF k hk)⟩
theorem Keeps.of_grown {w w' : World} {row : Option Nat} (h : w.grownBy w' row) {F : Nat → Prop} (hr : ∀ b, row = some b → b < w.heap.size → F b) : Keeps F w w' :=
  ⟨h.os, h.tape, h.output, h.size, fun k hk hn => h.block k hk (fun e => hn (hr k e.symm hk))⟩
theorem Keeps.drewN {F : Nat → Prop} {w w' : World} (h : Keeps F w w') (n : Nat) : Keeps F w (w'.drewN n) := ⟨h.os, h.tape, h.output, h.size, h.block⟩
theorem Keeps.drew {F : Nat → Prop} {w w' : World} (h : Keeps F w w') : Keeps F w w'.drew := ⟨h.os, h.tape, h.output, h.size, h.block⟩
theorem Keeps.undrew {F : Nat → Prop} {w w' : World} {n : Nat} (h : Keeps F (w.drewN n) w') : Keeps F w w' := ⟨h.os, h.tape, h.output, h.size, h.block⟩
theorem Keeps.undrew1 {F : Nat → Prop} {w w' : World} (h : Keeps F w.drew w') : Keeps F w w' := ⟨h.os, h.tape, h.output, h.size, h.block⟩
theorem ret_int {k : IntKind} {a b : Int} (h : a = b) : Ending.returned (Value.int k a) = .returned (.int k b) := by rw [h]
theorem Keeps.alloc {F : Nat → Prop} {w w' : World} (h : Keeps F w w') (o : Obj) : Keeps F w (w'.alloc o) :=
  h.trans (G := F) (Keeps.of_grown (World.grownBy_alloc w' o none) (fun _ e => by cases e)) (fun _ _ f => f) (fun _ _ f => f)
theorem Keeps.setCell {F : Nat → Prop} {w w' : World} (h : Keeps F w w') (a : Addr) (u : Value) (ha : a.block < w.heap.size → F a.block) : Keeps F w (w'.setCell a u) :=
  h.trans (G := OneB a.block) ⟨rfl, rfl, rfl, by simp [World.setCell], fun k _ hk => Below.heap_setCell _ _ _ _ hk⟩ (fun _ _ f => f) (fun i hi e => by cases e; exact ha hi)
theorem Keeps.cell {F : Nat → Prop} {w w' : World} (h : Keeps F w w') {a : Addr} {v : Value} (hc : w.cell? a = some v) (hn : ¬ F a.block) : w'.cell? a = some v := by
  have hb := World.block_lt_of_cell? w a hc
  rw [World.cell?_of_block (h.block a.block hb hn)]; exact hc
theorem Keeps.obj {F : Nat → Prop} {w w' : World} (h : Keeps F w w') {b : Nat} {o : Obj} (hc : w.heap[b]? = some o) (hn : ¬ F b) : w'.heap[b]? = some o := by
  rw [h.block b (Array.getElem?_eq_some_iff.1 hc).1 hn]; exact hc

/-- The bytes xs lie from A on. -/
def Rd (w : World) (A : Option Addr) (xs : List UInt8) : Prop :=
  ∀ i (h : i < xs.length), ∃ b o, A = some ⟨b, o, none⟩ ∧ w.cell? ⟨b, o + i, none⟩ = some (.int .u8 (xs[i].toNat : Int))
/-- v is a slice of bytes: xs. F holds of no block that it reads. -/
def Bts (w : World) (v : Value) (xs : List UInt8) : Prop :=
  ∃ A c, v = .slice A xs.length c ∧ xs.length ≤ c ∧ c ≤ maxLen ∧ (A = none → c = 0) ∧ (0 < c → ∀ a, A = some a → a.spot = none ∧ a.block < w.heap.size) ∧ Rd w A xs
/-- The slice value lies in no block of F. -/
def Off (F : Nat → Prop) (v : Value) : Prop := ∀ b, v.ownBlock = some b → ¬ F b
/-- The slice value reads nothing in F. -/
def OffR (F : Nat → Prop) (v : Value) : Prop := ∀ a n c, v = .slice (some a) n c → 0 < c → ¬ F a.block
theorem Off.r {F : Nat → Prop} {v : Value} (h : Off F v) : OffR F v := fun a n c e _ => h a.block (by rw [e]; rfl)

theorem Bts.nil (w : World) : Bts w (.slice none 0 0) [] := ⟨none, 0, rfl, Nat.le_refl _, Nat.zero_le _, fun _ => rfl, (fun _ _ h => by cases h), (fun _ h => by simp at h)⟩
theorem Bts.keeps {F : Nat → Prop} {w w' : World} {v : Value} {xs : List UInt8} (h : Bts w v xs) (k : Keeps F w w') (hF : OffR F v) : Bts w' v xs := by
  obtain ⟨A, c, rfl, h1, h2, h3, h4, h5⟩ := h
  refine ⟨A, c, rfl, h1, h2, h3, fun hc a ha => ⟨(h4 hc a ha).1, Nat.lt_of_lt_of_le (h4 hc a ha).2 k.size⟩, fun i hi => ?_⟩
  obtain ⟨b, o, rfl, hc⟩ := h5 i hi
  exact ⟨b, o, rfl, k.cell hc (hF ⟨b, o, none⟩ xs.length c rfl (by omega))⟩
theorem Bts.below {w w' : World} {v : Value} {xs : List UInt8} (h : Bts w v xs) (k : Below w.heap.size w w') : Bts w' v xs :=
  h.keeps (F := NoB) (Keeps.of_below k _) (fun _ _ _ _ _ f => f)
theorem Bts.drewN {w : World} {v : Value} {xs : List UInt8} (h : Bts w v xs) (n : Nat) : Bts (w.drewN n) v xs := h
def u8v (x : UInt8) : Value := .int .u8 (x.toNat : Int)
def bvs (xs : List UInt8) : List Value := xs.map u8v
theorem bvs_length (xs : List UInt8) : (bvs xs).length = xs.length := by simp [bvs]
theorem bvs_append (xs ys : List UInt8) : bvs (xs ++ ys) = bvs xs ++ bvs ys := by simp [bvs]
theorem bvs_one (xs : List UInt8) : ∀ u ∈ bvs xs, u.oneCell' = true := fun u hu => by obtain ⟨x, _, rfl⟩ := List.mem_map.1 hu; rfl
theorem add_lit (b o j : Nat) : (⟨b, o, none⟩ : Addr).add j = ⟨b, o + j, none⟩ := by unfold Addr.add; split <;> simp_all
/-- An owned row of bytes. -/
def Own (w : World) (base : Nat) (v : Value) (xs : List UInt8) : Prop := w.ownsRow base 5 1 v xs.length (bvs xs)
theorem Own.bts {w : World} {base : Nat} {v : Value} {xs : List UInt8} (h : Own w base v xs) : Bts w v xs := by
  obtain ⟨h1, h2⟩ := h
  rcases h2 with ⟨rfl, hn⟩ | ⟨g, cap, cur, rfl, hb, hg, hn, hc, hs, ht⟩
  · have : xs = [] := List.eq_nil_of_length_eq_zero hn
    subst this; exact Bts.nil w
  · refine ⟨some ⟨g, 0, none⟩, cap, rfl, hn, hc, (fun e => by cases e), (fun _ a ha => by cases ha; exact ⟨rfl, (Array.getElem?_eq_some_iff.1 hg).1⟩), fun i hi => ⟨g, 0, rfl, ?_⟩⟩
    rw [cell_of_row w g (0 + i) cur _ (0, 0) hg]
    have h3 : (bvs xs)[i]? = some (u8v xs[i]) := by simp [bvs, hi]
    rw [← ht, List.getElem?_take] at h3
    split at h3
    · simpa [u8v] using h3
    · cases h3
theorem Own.off {w : World} {base : Nat} {v : Value} {xs : List UInt8} (h : Own w base v xs) {F : Nat → Prop} (hF : ∀ b, base ≤ b → b < w.heap.size → ¬ F b) : Off F v :=
  fun b hb => hF b (World.ownsRow.lt h b hb).1 (World.ownsRow.lt h b hb).2
theorem Own.keeps {F : Nat → Prop} {w w' : World} {base : Nat} {v : Value} {xs : List UInt8} (h : Own w base v xs) (k : Keeps F w w') (hF : Off F v) : Own w' base v xs := by
  obtain ⟨h1, h2⟩ := h
  refine ⟨h1, ?_⟩
  rcases h2 with h2 | ⟨g, cap, cur, rfl, hb, hg, r⟩
  · exact .inl h2
  · exact .inr ⟨g, cap, cur, rfl, hb, k.obj hg (hF g rfl), r⟩
theorem Own.less {w : World} {base b : Nat} {v : Value} {xs : List UInt8} (h : Own w base v xs) (hb : b ≤ base) : Own w b v xs := by
  obtain ⟨h1, h2⟩ := h
  refine ⟨h1, ?_⟩
  rcases h2 with h2 | ⟨g, cap, cur, rfl, hb', r⟩
  · exact .inl h2
  · exact .inr ⟨g, cap, cur, rfl, Nat.le_trans hb hb', r⟩
theorem Own.nil (w : World) (base : Nat) : Own w base (.slice none 0 0) [] := World.ownsRow_nil w base _ _
/-- What the append reads. -/
theorem Rd.news {w : World} {b o : Nat} {xs : List UInt8} (h : Rd w (some ⟨b, o, none⟩) xs) : ∀ j u, (bvs xs)[j]? = some u → w.cell? ((⟨b, o, none⟩ : Addr).add j) = some u := by
  intro j u hj
  rw [add_lit]
  have hl : j < xs.length := by have := (List.getElem?_eq_some_iff.1 hj).1; simpa [bvs] using this
  obtain ⟨b', o', e, hc⟩ := h j hl
  cases e
  rw [hc]
  simpa [bvs, u8v, hl] using hj
theorem blk_cell {w : World} {g : Nat} {t : TypeId} {cs : Array Value} {f : Nat × Nat} (h : w.heap[g]? = some (.cells cs t f)) (i : Nat) : w.cell? ⟨g, i, none⟩ = cs[i]? := cell_of_row w g i cs t f h
theorem blk_set {w : World} {g : Nat} {t : TypeId} {cs : Array Value} {f : Nat × Nat} (h : w.heap[g]? = some (.cells cs t f)) (i : Nat) (u : Value) : (w.setCell ⟨g, i, none⟩ u).heap[g]? = some (.cells (cs.setIfInBounds i u) t f) := by
  simp [World.setCell, Array.getElem?_modify, h]
theorem blk_frozen {w : World} {g : Nat} {t : TypeId} {cs : Array Value} (h : w.heap[g]? = some (.cells cs t (0, 0))) (i : Nat) : w.frozen? ⟨g, i, none⟩ = false := by simp [World.frozen?, h]

theorem Bts.rd {w : World} {A : Option Addr} {n c : Nat} {xs : List UInt8} (h : Bts w (.slice A n c) xs) : n = xs.length ∧ n ≤ c ∧ c ≤ maxLen ∧ (A = none → c = 0) ∧ (0 < c → ∀ a, A = some a → a.spot = none ∧ a.block < w.heap.size) ∧ Rd w A xs := by
  obtain ⟨A', c', e, h⟩ := h
  cases e
  exact ⟨rfl, h⟩
end Go.Proofs.YtdjamijbhaplgaaGreat
namespace Go.Proofs.YtdjamijbhaplgaaGreat
open Go.RowKit

theorem infoU8 : (Tryz.prog.info? 5).map (fun i => (i.zero, i.size, i.bytes)) = some (some (.int .u8 0), 1, 1) := by kernel_rfl

theorem eqlBytes (w : World) (a : Option Addr) (n c n' c' : Nat) : (binOp .eql 49 (.slice a n c) (.slice none n' c')).run Tryz.prog w = .ok (.bool a.isNone) w :=
  Lib.run_eql_slice_nil w _ _ a n c n' c' Tryz.underlying49

set_option maxHeartbeats 1000000 in
theorem clone_nil (w : World) (n c : Nat) :
    Calls Tryz.prog 75 #[.slice none n c] w fun e w' => e = .returned (.slice none 0 0) ∧ w = w' := by
  have q := eqlBytes
  go_enter Tryz.func75, Tryz.ntmps75
  go_wp2
  go_ret
  exact ⟨rfl, rfl⟩

set_option maxHeartbeats 1000000 in
theorem clone_some (w : World) (ad : Addr) (c : Nat) (xs : List UInt8) (hl : xs.length ≤ 140737488355328) (hr : ∀ j u, (bvs xs)[j]? = some u → w.cell? (ad.add j) = some u) :
    Calls Tryz.prog 75 #[.slice (some ad) xs.length c] w fun e w' => ∃ v, e = .returned v ∧ Own w' w.heap.size v xs ∧ v ≠ .slice none 0 0 ∧ Below w.heap.size w w' := by
  have q := eqlBytes
  obtain ⟨i0, hi, hz0, hz1, hz2⟩ := info_parts infoU8
  have A := Sd.mk hr
  clear hr
  go_enter Tryz.func75, Tryz.ntmps75
  go_wp2_with (at_builtin; refine wpList_append_own _ rfl _ _ 49 rfl w.heap.size 5 i0 (.int .u8 0) 1 1 Tryz.underlying49 hi hz0 hz1 hz2 rfl (by decide) _ _ _ rfl (World.ownsRow_made w #[] 0 (Nat.le_refl _) (Nat.zero_le _) rfl) ad xs.length c (bvs xs) rfl ?qc1 ?qc2 ?qc3 ?qc4 ?qc5 ?qc6 ?_)
  case qc1 => simp [bvs]
  case qc2 => intro j u hj; exact Lib.cell?_alloc_some _ (A.o j u hj)
  case qc3 => exact bvs_one xs
  case qc4 => unfold maxLen; omega
  case qc5 => omega
  case qc6 => simp
  intro v' w1 hown hgrow hnil
  go_wp2
  go_ret
  refine ⟨v', rfl, ?_, ?_, ?_⟩
  · unfold Own; simpa using hown
  · exact hnil
  · exact ((Below.refl _ w).alloc (Nat.le_refl _) _).grown hgrow (by simp) (by intro k hk; simp [Value.ownBlock] at hk; omega)
end Go.Proofs.YtdjamijbhaplgaaGreat
namespace Go.Proofs.YtdjamijbhaplgaaGreat

/-- A number out of bytes: the error, the number, how many bytes it took. -/
def rdVar : List UInt8 → Nat → Nat → Int × Nat × Nat
  | [], _, _ => (3, 0, 0)
  | c :: l, i, acc =>
    if 9 ≤ i ∧ 1 < c.toNat then (10, 0, 0)
    else if c.toNat = 0 ∧ 0 < i then (11, 0, 0)
    else if c.toNat < 128 then (0, acc + (c.toNat % 128) * 2 ^ (7 * i), i + 1)
    else rdVar l (i + 1) (acc + (c.toNat % 128) * 2 ^ (7 * i))

/-- A reader's state. -/
structure RSt where
  p : List UInt8
  pos : Nat
  err : Int
  spot : Nat

def RSt.num (s : RSt) : Nat × RSt :=
  if s.err = 0 then
    match rdVar (s.p.drop s.pos) 0 0 with
    | (e, n, k) => if e = 0 then (n, { s with pos := s.pos + k }) else (0, { s with err := e, spot := s.pos })
  else (0, s)

def RSt.stop (s : RSt) (e : Int) (at_ : Nat) : RSt := { s with err := e, spot := at_, pos := at_ }
def RSt.fail (s : RSt) (e : Int) : RSt := if s.err = 0 ∧ e ≠ 0 then s.stop e s.pos else s
def RSt.byte (s : RSt) : UInt8 × RSt :=
  if s.err = 0 then
    match s.p.drop s.pos with
    | [] => (0, s.stop 3 s.pos)
    | c :: _ => (c, { s with pos := s.pos + 1 })
  else (0, s)
def RSt.count (s : RSt) (most : Int) : Nat × RSt :=
  if s.num.2.err = 0 ∧ (most < 0 ∨ most < (s.num.1 : Int)) then (0, s.num.2.stop 1 s.pos) else s.num
def RSt.text (s : RSt) (most : Int) : List UInt8 × RSt :=
  if (s.count most).2.err = 0 then
    if s.p.length - (s.count most).2.pos < (s.count most).1 then ([], (s.count most).2.stop 3 s.pos)
    else ((s.p.drop (s.count most).2.pos).take (s.count most).1, { (s.count most).2 with pos := (s.count most).2.pos + (s.count most).1 })
  else ([], (s.count most).2)
def zag (n : Nat) : Int := if n % 2 = 1 then -((n / 2 : Nat) : Int) - 1 else ((n / 2 : Nat) : Int)
def RSt.done (s : RSt) : Int := if s.err = 0 ∧ s.pos < s.p.length then 4 else s.err
theorem RSt.num_err_ne (s : RSt) (h : s.err ≠ 0) : s.num = (0, s) := by simp [RSt.num, h]
theorem RSt.num_p (s : RSt) : s.num.2.p = s.p := by
  unfold RSt.num
  split
  · split; split <;> rfl
  · rfl
theorem rdVar_lt : ∀ (l : List UInt8) (i acc : Nat), acc < 2 ^ (7 * i) → i ≤ 9 → (rdVar l i acc).2.1 < 2 ^ 64
  | [], _, _, _, _ => by simp [rdVar]
  | c :: l, i, acc, ha, hi => by
    unfold rdVar
    split
    · simp
    rename_i h1
    split
    · simp
    have hpow : 2 ^ (7 * (i + 1)) = 128 * 2 ^ (7 * i) := by rw [Nat.mul_add, Nat.pow_add, Nat.mul_comm]
    have hm : (c.toNat % 128) * 2 ^ (7 * i) ≤ 127 * 2 ^ (7 * i) := Nat.mul_le_mul_right _ (by omega)
    split
    · by_cases h9 : i = 9
      · subst h9
        have : (c.toNat % 128) * 2 ^ (7 * 9) ≤ 1 * 2 ^ (7 * 9) := Nat.mul_le_mul_right _ (by omega)
        simp only
        omega
      · have : 2 ^ (7 * i) ≤ 2 ^ 56 := Nat.pow_le_pow_right (by decide) (by omega)
        simp only
        omega
    · rename_i h3
      refine rdVar_lt l (i + 1) _ (by omega) ?_
      have := c.toNat_lt
      omega
theorem RSt.num_lt (s : RSt) : s.num.1 < 2 ^ 64 := by
  unfold RSt.num
  split
  · have := rdVar_lt (s.p.drop s.pos) 0 0 (by decide) (by decide)
    split
    rename_i e n k h
    rw [h] at this
    split
    · exact this
    · exact Nat.two_pow_pos 64
  · exact Nat.two_pow_pos 64
/-- A number's bytes. -/
def put1 (n : Nat) : List UInt8 := if n < 128 then [UInt8.ofNat n] else UInt8.ofNat (n % 128 + 128) :: put1 (n / 128)
termination_by n
decreasing_by omega
def putL (l : List Nat) : List UInt8 := l.flatMap put1
theorem put1_lt (n : Nat) (h : n < 128) : put1 n = [UInt8.ofNat n] := by unfold put1; rw [if_pos h]
theorem put1_ge (n : Nat) (h : ¬ n < 128) : put1 n = UInt8.ofNat (n % 128 + 128) :: put1 (n / 128) := by rw [put1, if_neg h]
theorem put1_len : ∀ (k n : Nat), n < 128 ^ (k + 1) → (put1 n).length ≤ k + 1
  | 0, n, h => by rw [put1_lt n (by simpa using h)]; simp
  | k + 1, n, h => by
    by_cases hn : n < 128
    · rw [put1_lt n hn]; simp
    · rw [put1_ge n hn]
      have := put1_len k (n / 128) (by rw [Nat.pow_succ] at h; omega)
      simp only [List.length_cons]; omega
theorem put1_len10 (n : Nat) (h : n < 18446744073709551616) : (put1 n).length ≤ 10 := put1_len 9 n (by omega)
theorem put1_pos (n : Nat) : 1 ≤ (put1 n).length := by
  by_cases h : n < 128
  · rw [put1_lt n h]; simp
  · rw [put1_ge n h]; simp
theorem put1_sum {ys zs : List UInt8} {n m : Nat} (h : ys ++ put1 n = zs ++ put1 m) (hn : n < 18446744073709551616) : zs.length + 1 ≤ ys.length + 10 := by
  have h1 := congrArg List.length h
  simp only [List.length_append] at h1
  have := put1_len10 n hn
  have := put1_pos m
  omega
theorem putL_snoc (l : List Nat) (n : Nat) : putL (l ++ [n]) = putL l ++ put1 n := by simp [putL]
theorem putL_len : ∀ (l : List Nat), (∀ n ∈ l, n < 18446744073709551616) → (putL l).length ≤ 10 * l.length
  | [], _ => by simp [putL]
  | n :: l, h => by
    have h1 := put1_len10 n (h n (by simp))
    have h2 := putL_len l (fun m hm => h m (by simp [hm]))
    simp only [putL, List.flatMap_cons, List.length_append, List.length_cons] at *
    omega
/-- A number with a sign as one without. -/
def zig (n : Int) : Nat := if n < 0 then 2 * (-(n + 1)).toNat + 1 else 2 * n.toNat
def putI (l : List Int) : List UInt8 := putL (l.map zig)
def put1T (s : List UInt8) : List UInt8 := put1 s.length ++ s
def putT (l : List (List UInt8)) : List UInt8 := l.flatMap put1T
theorem putI_snoc (l : List Int) (n : Int) : putI (l ++ [n]) = putI l ++ put1 (zig n) := by simp [putI, putL]
theorem putT_snoc (l : List (List UInt8)) (s : List UInt8) : putT (l ++ [s]) = putT l ++ (put1 s.length ++ s) := by simp [putT, put1T]
theorem zig_lt (n : Int) (h0 : -9223372036854775808 ≤ n) (h1 : n ≤ 9223372036854775807) : zig n < 18446744073709551616 := by
  unfold zig
  split <;> omega
end Go.Proofs.YtdjamijbhaplgaaGreat
namespace Go.Proofs.YtdjamijbhaplgaaGreat

def poly : Nat := 2197175160
def crcStep (c : Nat) : Nat := if c % 2 = 1 then (c / 2) ^^^ poly else c / 2
def crcIt : Nat → Nat → Nat
  | 0, c => c
  | n + 1, c => crcIt n (crcStep c)
def crcByte (c : Nat) (x : UInt8) : Nat := crcIt 8 (c ^^^ x.toNat)
def crcL (c : Nat) (l : List UInt8) : Nat := l.foldl crcByte c
def crc (l : List UInt8) : Nat := 4294967295 - crcL 4294967295 l
theorem crcStep_lt (c : Nat) (h : c < 4294967296) : crcStep c < 4294967296 := by
  unfold crcStep
  split
  · exact Nat.xor_lt_two_pow (n := 32) (by omega) (by decide)
  · omega
theorem crcIt_lt : ∀ (n c : Nat), c < 4294967296 → crcIt n c < 4294967296
  | 0, _, h => h
  | n + 1, c, h => crcIt_lt n _ (crcStep_lt c h)
theorem crcXor_lt (c : Nat) (x : UInt8) (h : c < 4294967296) : c ^^^ x.toNat < 4294967296 :=
  Nat.xor_lt_two_pow (n := 32) (by omega) (by have := x.toNat_lt; omega)
theorem crcByte_lt (c : Nat) (x : UInt8) (h : c < 4294967296) : crcByte c x < 4294967296 := crcIt_lt _ _ (crcXor_lt c x h)
theorem crcL_lt : ∀ (l : List UInt8) (c : Nat), c < 4294967296 → crcL c l < 4294967296
  | [], _, h => h
  | x :: l, c, h => crcL_lt l _ (crcByte_lt c x h)
theorem crcL_append (c : Nat) (l m : List UInt8) : crcL c (l ++ m) = crcL (crcL c l) m := by simp [crcL]
theorem crcL_take (c : Nat) (l : List UInt8) (k : Nat) (h : k < l.length) : crcL c (l.take (k + 1)) = crcByte (crcL c (l.take k)) l[k] := by
  rw [List.take_succ_eq_append_getElem h, crcL_append]; rfl
theorem flatten_take (ls : List (List UInt8)) (k : Nat) (h : k < ls.length) : (ls.take (k + 1)).flatten = (ls.take k).flatten ++ ls[k] := by
  rw [List.take_succ_eq_append_getElem h, List.flatten_append, List.flatten_cons, List.flatten_nil, List.append_nil]
theorem crcIt_snoc : ∀ (n c : Nat), crcIt (n + 1) c = crcStep (crcIt n c)
  | 0, _ => rfl
  | n + 1, c => by rw [crcIt, crcIt_snoc n, ← crcIt]
theorem crc_lt (l : List UInt8) : crc l < 4294967296 := by unfold crc; omega
end Go.Proofs.YtdjamijbhaplgaaGreat
namespace Go.Proofs.YtdjamijbhaplgaaGreat
open Go.RowKit

theorem u64_nat (n : Nat) (h : n < 18446744073709551616) : IntKind.u64.wrap (n : Int) = (n : Int) := by rw [IntKind.wrap_u64]; omega
theorem u32_nat (n : Nat) (h : n < 4294967296) : IntKind.u32.wrap (n : Int) = (n : Int) := by rw [IntKind.wrap_u32]; omega
theorem u8_nat (n : Nat) (h : n < 256) : IntKind.u8.wrap (n : Int) = (n : Int) := by rw [IntKind.wrap_u8]; omega
theorem wraps_u64 (n : Int) (h₀ : 0 ≤ n) (h₁ : n < 2 ^ 64) : IntKind.u64.wrap n = n := by rw [IntKind.wrap_u64]; omega
theorem wraps_u32 (n : Int) (h₀ : 0 ≤ n) (h₁ : n < 2 ^ 32) : IntKind.u32.wrap n = n := by rw [IntKind.wrap_u32]; omega
theorem and127 (c : Nat) (h : c < 256) : bits .and .u8 (c : Int) 127 = ((c % 128 : Nat) : Int) := by
  have := bits_mask .u8 8 (by decide) Go.wraps_u8 7 (by decide) (c : Int) (by omega) (by omega)
  rw [show ((2 : Int) ^ 7 - 1) = 127 from rfl] at this
  rw [this]; omega
theorem or_u64 (a b : Nat) (ha : a < 2 ^ 64) (hb : b < 2 ^ 64) : bits .or .u64 (a : Int) (b : Int) = ((a ||| b : Nat) : Int) :=
  (bits_nat .u64 64 (by decide) wraps_u64 a b ha hb).2
theorem or_low (a d i : Nat) (ha : a < 2 ^ i) : a ||| d * 2 ^ i = a + d * 2 ^ i := by
  rw [Nat.or_comm, Nat.mul_comm, ← Nat.two_pow_add_eq_or_of_lt ha, Nat.add_comm]
theorem shl_lt (k d : Nat) (hk : k ≤ 9) (hd : d < 128) (h9 : k = 9 → d ≤ 1) : d * 2 ^ (7 * k) < 2 ^ 64 ∧ 2 ^ (7 * k) < 2 ^ 64 := by
  have hp : 2 ^ (7 * k) ≤ 2 ^ 63 := Nat.pow_le_pow_right (by decide) (by omega)
  refine ⟨?_, by omega⟩
  by_cases h : k = 9
  · subst h
    have := h9 rfl
    have : d * 2 ^ (7 * 9) ≤ 1 * 2 ^ (7 * 9) := Nat.mul_le_mul_right _ this
    omega
  · have hp : 2 ^ (7 * k) ≤ 2 ^ 56 := Nat.pow_le_pow_right (by decide) (by omega)
    have : d * 2 ^ (7 * k) ≤ 127 * 2 ^ 56 := Nat.mul_le_mul (by omega) hp
    omega
theorem or_step (acc k c : Nat) (hacc : acc < 2 ^ (7 * k)) (hk : k ≤ 9) (hc : c < 256) (h9 : k = 9 → c ≤ 1) :
    bits .or .u64 (acc : Int) (IntKind.u64.wrap (IntKind.u64.wrap (bits .and .u8 (c : Int) 127) * 2 ^ (7 * k))) = ((acc + (c % 128) * 2 ^ (7 * k) : Nat) : Int) := by
  obtain ⟨h1, h2⟩ := shl_lt k (c % 128) hk (by omega) (fun h => by have := h9 h; omega)
  rw [and127 c hc, u64_nat _ (by omega)]
  have e : ((c % 128 : Nat) : Int) * 2 ^ (7 * k) = (((c % 128) * 2 ^ (7 * k) : Nat) : Int) := by push_cast; rfl
  rw [e, u64_nat _ (by omega), or_u64 _ _ (by omega) (by omega), or_low _ _ _ hacc]
theorem or_step0 (acc k : Nat) (hacc : acc < 2 ^ (7 * k)) (hk : k ≤ 9) : bits .or .u64 (acc : Int) (IntKind.u64.wrap (IntKind.u64.wrap (bits .and .u8 0 127) * 2 ^ (7 * k))) = (acc : Int) := by
  have := or_step acc k 0 hacc hk (by omega) (by omega)
  simpa using this
theorem acc_lt (acc k c : Nat) (hacc : acc < 2 ^ (7 * k)) : acc + (c % 128) * 2 ^ (7 * k) < 2 ^ (7 * (k + 1)) := by
  have e : 2 ^ (7 * (k + 1)) = 128 * 2 ^ (7 * k) := by rw [Nat.mul_add, Nat.pow_add, Nat.mul_comm]
  have : (c % 128) * 2 ^ (7 * k) ≤ 127 * 2 ^ (7 * k) := Nat.mul_le_mul_right _ (by omega)
  omega
theorem and1_u64 (n : Nat) (h : n < 2 ^ 64) : bits .and .u64 (n : Int) 1 = ((n % 2 : Nat) : Int) := by
  have := bits_mask .u64 64 (by decide) wraps_u64 1 (by decide) (n : Int) (by omega) (by omega)
  rw [show ((2 : Int) ^ 1 - 1) = 1 from rfl] at this
  rw [this]; omega
theorem xor_zero_i64 (n : Nat) (h : n < 2 ^ 63) : bits .xor .i64 (n : Int) 0 = (n : Int) := by
  show IntKind.i64.wrap ((BitVec.ofInt 64 (n : Int) ^^^ BitVec.ofInt 64 0).toNat : Int) = _
  rw [show BitVec.ofInt 64 0 = 0#64 from rfl, BitVec.xor_zero, BitVec.ofInt_natCast, BitVec.toNat_ofNat, IntKind.wrap_i64]
  omega
theorem xor_ones_i64 (n : Nat) (h : n < 2 ^ 63) : bits .xor .i64 (n : Int) (-1) = -(n : Int) - 1 := by
  show IntKind.i64.wrap ((BitVec.ofInt 64 (n : Int) ^^^ BitVec.ofInt 64 (-1)).toNat : Int) = _
  rw [show BitVec.ofInt 64 (-1) = BitVec.allOnes 64 from rfl, BitVec.xor_allOnes, BitVec.ofInt_natCast, BitVec.toNat_not, BitVec.toNat_ofNat, IntKind.wrap_i64]
  omega
theorem zag_bits (n : Nat) (h : n < 2 ^ 64) : bits .xor .i64 (wrap64 ((n : Int) / 2)) (wrap64 (-wrap64 (bits .and .u64 (n : Int) 1))) = if n % 2 = 1 then -((n / 2 : Nat) : Int) - 1 else ((n / 2 : Nat) : Int) := by
  rw [and1_u64 n h]
  have e1 : wrap64 ((n : Int) / 2) = ((n / 2 : Nat) : Int) := by unfold wrap64; omega
  rw [e1]
  by_cases hn : n % 2 = 1
  · rw [hn, if_pos rfl, show wrap64 (-wrap64 ((1 : Nat) : Int)) = -1 by unfold wrap64; omega]
    exact xor_ones_i64 _ (by omega)
  · rw [if_neg hn, show n % 2 = 0 by omega, show wrap64 (-wrap64 ((0 : Nat) : Int)) = 0 by unfold wrap64; omega]
    exact xor_zero_i64 _ (by omega)
theorem or128 (n : Nat) : bits .or .u8 ((n : Int) % 256) 128 = ((UInt8.ofNat (n % 128 + 128)).toNat : Int) := by
  have e : ((n : Int) % 256) = ((n % 256 : Nat) : Int) := by omega
  have h0 := (bits_nat .u8 8 (by decide) Go.wraps_u8 (n % 256) 128 (by omega) (by decide)).2
  rw [show ((128 : Nat) : Int) = 128 from rfl] at h0
  rw [e, h0]
  have h1 : (n % 256) ||| 128 = n % 128 + 128 := by
    have h2 : n % 256 = n % 128 + (n / 128 % 2) * 128 := by omega
    have hl : n % 128 < 2 ^ 7 := by omega
    rw [h2, ← or_low (n % 128) (n / 128 % 2) 7 hl, Nat.or_assoc]
    have h3 : (n / 128 % 2) * 2 ^ 7 ||| 128 = 1 * 2 ^ 7 := by
      rcases Nat.mod_two_eq_zero_or_one (n / 128) with h | h <;> rw [h] <;> decide
    rw [h3, or_low _ 1 7 hl]
  rw [h1]
  simp
  omega
theorem byte_of (n : Nat) : ((n : Int) % 256) = ((UInt8.ofNat n).toNat : Int) := by simp
theorem xor_zero_u64 (n : Nat) (h : n < 2 ^ 64) : bits .xor .u64 (n : Int) 0 = (n : Int) := by
  show IntKind.u64.wrap ((BitVec.ofInt 64 (n : Int) ^^^ BitVec.ofInt 64 0).toNat : Int) = _
  rw [show BitVec.ofInt 64 0 = 0#64 from rfl, BitVec.xor_zero, BitVec.ofInt_natCast, BitVec.toNat_ofNat, IntKind.wrap_u64]
  omega
theorem xor_ones_u64 (n : Nat) (h : n < 2 ^ 64) : bits .xor .u64 (n : Int) 18446744073709551615 = 18446744073709551615 - (n : Int) := by
  show IntKind.u64.wrap ((BitVec.ofInt 64 (n : Int) ^^^ BitVec.ofInt 64 18446744073709551615).toNat : Int) = _
  rw [show BitVec.ofInt 64 18446744073709551615 = BitVec.allOnes 64 from rfl, BitVec.xor_allOnes, BitVec.ofInt_natCast, BitVec.toNat_not, BitVec.toNat_ofNat, IntKind.wrap_u64]
  omega
theorem zig_bits (n : Int) (h0 : -9223372036854775808 ≤ n) (h1 : n ≤ 9223372036854775807) :
    bits .xor .u64 (IntKind.u64.wrap (IntKind.u64.wrap n * 2)) (IntKind.u64.wrap (n / 9223372036854775808)) = ((if n < 0 then 2 * (-(n + 1)).toNat + 1 else 2 * n.toNat : Nat) : Int) := by
  by_cases hn : n < 0
  · have e1 : IntKind.u64.wrap (IntKind.u64.wrap n * 2) = ((2 * n + 18446744073709551616).toNat : Int) := by rw [IntKind.wrap_u64, IntKind.wrap_u64]; omega
    have e2 : IntKind.u64.wrap (n / 9223372036854775808) = 18446744073709551615 := by rw [IntKind.wrap_u64]; omega
    rw [e1, e2, xor_ones_u64 _ (by omega), if_pos hn]
    omega
  · have e1 : IntKind.u64.wrap (IntKind.u64.wrap n * 2) = ((2 * n).toNat : Int) := by rw [IntKind.wrap_u64, IntKind.wrap_u64]; omega
    have e2 : IntKind.u64.wrap (n / 9223372036854775808) = 0 := by rw [IntKind.wrap_u64]; omega
    rw [e1, e2, xor_zero_u64 _ (by omega), if_neg hn]
    omega
theorem and_u32 (a b : Nat) (ha : a < 2 ^ 32) (hb : b < 2 ^ 32) : bits .and .u32 (a : Int) (b : Int) = ((a &&& b : Nat) : Int) :=
  (bits_nat .u32 32 (by decide) wraps_u32 a b ha hb).1
theorem xor_u32 (a b : Nat) (ha : a < 2 ^ 32) (hb : b < 2 ^ 32) : bits .xor .u32 (a : Int) (b : Int) = ((a ^^^ b : Nat) : Int) := by
  have hx : a ^^^ b < 2 ^ 32 := Nat.xor_lt_two_pow ha hb
  have h1 : (BitVec.ofInt 32 (a : Int)).toNat = a := by
    rw [BitVec.ofInt_natCast, BitVec.toNat_ofNat]; exact Nat.mod_eq_of_lt ha
  have h2 : (BitVec.ofInt 32 (b : Int)).toNat = b := by
    rw [BitVec.ofInt_natCast, BitVec.toNat_ofNat]; exact Nat.mod_eq_of_lt hb
  show IntKind.u32.wrap ((BitVec.ofInt 32 (a : Int) ^^^ BitVec.ofInt 32 (b : Int)).toNat : Int) = _
  rw [BitVec.toNat_xor, h1, h2]
  exact wraps_u32 _ (by omega) (by exact_mod_cast hx)
theorem and1_u32 (n : Nat) (h : n < 2 ^ 32) : bits .and .u32 (n : Int) 1 = ((n % 2 : Nat) : Int) := by
  have := bits_mask .u32 32 (by decide) wraps_u32 1 (by decide) (n : Int) (by omega) (by omega)
  rw [show ((2 : Int) ^ 1 - 1) = 1 from rfl] at this
  rw [this]; omega
theorem crc_prog (c : Nat) (h : c < 4294967296) : bits .xor .u32 ((c : Int) / 2) (bits .and .u32 2197175160 ((-(bits .and .u32 (c : Int) 1)) % 4294967296)) = (crcStep c : Int) := by
  rw [and1_u32 c h]
  have e0 : ((c : Int) / 2) = ((c / 2 : Nat) : Int) := by omega
  unfold crcStep
  by_cases hc : c % 2 = 1
  · rw [if_pos hc, hc]
    have e1 : (-((1 : Nat) : Int)) % 4294967296 = ((4294967295 : Nat) : Int) := by omega
    have e2 := and_u32 2197175160 4294967295 (by decide) (by decide)
    rw [show ((2197175160 : Nat) : Int) = 2197175160 from rfl] at e2
    rw [e1, e2, e0, xor_u32 _ _ (by omega) (by decide)]
    rfl
  · rw [if_neg hc, show c % 2 = 0 by omega]
    have e1 : (-((0 : Nat) : Int)) % 4294967296 = ((0 : Nat) : Int) := by omega
    have e2 := and_u32 2197175160 0 (by decide) (by decide)
    rw [show ((2197175160 : Nat) : Int) = 2197175160 from rfl] at e2
    rw [e1, e2, e0, xor_u32 _ _ (by omega) (by decide)]
    simp
theorem crc_not (c : Nat) (h : c < 4294967296) : bits .xor .u32 (-1) (c : Int) = ((4294967295 - c : Nat) : Int) := by
  show IntKind.u32.wrap ((BitVec.ofInt 32 (-1) ^^^ BitVec.ofInt 32 (c : Int)).toNat : Int) = _
  rw [show BitVec.ofInt 32 (-1) = BitVec.allOnes 32 from rfl, BitVec.allOnes_xor, BitVec.ofInt_natCast, BitVec.toNat_not, BitVec.toNat_ofNat, IntKind.wrap_u32]
  omega
theorem wraps_i64 (n : Int) (h₀ : 0 ≤ n) (h₁ : n < 2 ^ 63) : IntKind.i64.wrap n = n := by rw [IntKind.wrap_i64]; omega
theorem or_i64 (a b : Nat) (ha : a < 2 ^ 63) (hb : b < 2 ^ 63) : bits .or .i64 (a : Int) (b : Int) = ((a ||| b : Nat) : Int) :=
  (bits_nat .i64 63 (by decide) wraps_i64 a b ha hb).2
theorem or_high (a d i : Nat) (ha : a < 2 ^ i) : d * 2 ^ i ||| a = d * 2 ^ i + a := by
  rw [Nat.or_comm, or_low a d i ha, Nat.add_comm]
theorem or4_i64 (x0 x1 x2 x3 : Nat) (h0 : x0 < 256) (h1 : x1 < 256) (h2 : x2 < 256) (h3 : x3 < 256) :
    bits .or .i64 (bits .or .i64 (bits .or .i64 ((x0 : Int) * 16777216) ((x1 : Int) * 65536)) ((x2 : Int) * 256)) (x3 : Int) = ((x0 * 16777216 + x1 * 65536 + x2 * 256 + x3 : Nat) : Int) := by
  have e0 : ((x0 : Int) * 16777216) = ((x0 * 16777216 : Nat) : Int) := by omega
  have e1 : ((x1 : Int) * 65536) = ((x1 * 65536 : Nat) : Int) := by omega
  have e2 : ((x2 : Int) * 256) = ((x2 * 256 : Nat) : Int) := by omega
  have g1 : x0 * 16777216 ||| x1 * 65536 = x0 * 16777216 + x1 * 65536 := or_high (x1 * 65536) x0 24 (by omega)
  have g2 : (x0 * 16777216 + x1 * 65536) ||| x2 * 256 = x0 * 16777216 + x1 * 65536 + x2 * 256 := by
    have := or_high (x2 * 256) (x0 * 256 + x1) 16 (by omega)
    rw [show (x0 * 256 + x1) * 2 ^ 16 = x0 * 16777216 + x1 * 65536 by omega] at this
    exact this
  have g3 : (x0 * 16777216 + x1 * 65536 + x2 * 256) ||| x3 = x0 * 16777216 + x1 * 65536 + x2 * 256 + x3 := by
    have := or_high x3 (x0 * 65536 + x1 * 256 + x2) 8 (by omega)
    rw [show (x0 * 65536 + x1 * 256 + x2) * 2 ^ 8 = x0 * 16777216 + x1 * 65536 + x2 * 256 by omega] at this
    exact this
  rw [e0, e1, e2, or_i64 _ _ (by omega) (by omega), g1, or_i64 _ _ (by omega) (by omega), g2, or_i64 _ _ (by omega) (by omega), g3]
end Go.Proofs.YtdjamijbhaplgaaGreat
