/- Words for worlds, bytes and rows: what stays as it was, what a slice reads as. Plain lemmas over the model; no program's function. -/
import Derived.WalkKit
import Derived.WalkSpells
import Derived.WalkLawsBesides
import Derived.Deep.QuietTactic
import Derived.BigQuiet
import Derived.Deep.LoopGhost
import Derived.Lib.SliceRun
import Derived.Lib.Hide
namespace Go.Proofs.Ytplnneicmdlahaa
open Go.RowKit

/-- A fact laid aside: the walk's simp does not look into it. -/
structure Sd (p : Prop) : Prop where
  mk :: (o : p)

/-- Blocks outside F stay as they were; new blocks may come. -/
structure Keeps (F : Nat → Prop) (w w' : World) : Prop where
  os : w'.os = w.os
  tape : w'.tape = w.tape
  output : w'.output = w.output
  size : w.heap.size ≤ w'.heap.size
  block : ∀ k, k < w.heap.size → ¬ F k → w'.heap[k]? = w.heap[k]?

def NoB : Nat → Prop := fun _ => False
def OneB (b : Nat) : Nat → Prop := fun k => k = b
def FromB (b : Nat) : Nat → Prop := fun k => b ≤ k

theorem Keeps.refl (F : Nat → Prop) (w : World) : Keeps F w w := ⟨rfl, rfl, rfl, Nat.le_refl _, fun _ _ _ => rfl⟩
theorem Keeps.trans {F G H : Nat → Prop} {a b c : World} (h : Keeps F a b) (k : Keeps G b c)
    (hF : ∀ i, i < a.heap.size → F i → H i) (hG : ∀ i, i < a.heap.size → G i → H i) : Keeps H a c :=
  ⟨k.os.trans h.os, k.tape.trans h.tape, k.output.trans h.output, Nat.le_trans h.size k.size,
   fun i hi hn => (k.block i (Nat.lt_of_lt_of_le hi h.size) (fun g => hn (hG i hi g))).trans (h.block i hi (fun f => hn (hF i hi f)))⟩
theorem Keeps.mono {F G : Nat → Prop} {a b : World} (h : Keeps F a b) (hF : ∀ i, i < a.heap.size → F i → G i) : Keeps G a b :=
  ⟨h.os, h.tape, h.output, h.size, fun i hi hn => h.block i hi (fun f => hn (hF i hi f))⟩
theorem Keeps.of_below {w w' : World} (h : Below w.heap.size w w') (F : Nat → Prop) : Keeps F w w' :=
  ⟨h.os, h.tape, h.output, h.size, fun k hk _ => h.block k hk⟩
theorem Keeps.below {F : Nat → Prop} {w w' : World} (h : Keeps F w w') (hF : ∀ i, i < w.heap.size → ¬ F i) : Below w.heap.size w w' :=
  ⟨h.os, h.tape, h.output, h.size, fun k hk => h.block k hk (hF k hk)⟩
theorem Keeps.of_grown {w w' : World} {row : Option Nat} (h : w.grownBy w' row) {F : Nat → Prop} (hr : ∀ b, row = some b → b < w.heap.size → F b) : Keeps F w w' :=
  ⟨h.os, h.tape, h.output, h.size, fun k hk hn => h.block k hk (fun e => hn (hr k e.symm hk))⟩
theorem Keeps.drewN {F : Nat → Prop} {w w' : World} (h : Keeps F w w') (n : Nat) : Keeps F w (w'.drewN n) := ⟨h.os, h.tape, h.output, h.size, h.block⟩
theorem Keeps.drew {F : Nat → Prop} {w w' : World} (h : Keeps F w w') : Keeps F w w'.drew := ⟨h.os, h.tape, h.output, h.size, h.block⟩
theorem Keeps.undrew {F : Nat → Prop} {w w' : World} {n : Nat} (h : Keeps F (w.drewN n) w') : Keeps F w w' := ⟨h.os, h.tape, h.output, h.size, h.block⟩
theorem Keeps.undrew1 {F : Nat → Prop} {w w' : World} (h : Keeps F w.drew w') : Keeps F w w' := ⟨h.os, h.tape, h.output, h.size, h.block⟩
theorem ret_int {k : IntKind} {a b : Int} (h : a = b) : Ending.returned (Value.int k a) = .returned (.int k b) := by rw [h]
theorem Keeps.alloc {F : Nat → Prop} {w w' : World} (h : Keeps F w w') (o : Obj) : Keeps F w (w'.alloc o) :=
  h.trans (G := F) (Keeps.of_grown (World.grownBy_alloc w' o none) (fun _ e => by cases e)) (fun _ _ f => f) (fun _ _ f => f)
theorem Keeps.setCell {F : Nat → Prop} {w w' : World} (h : Keeps F w w') (a : Addr) (u : Value) (ha : a.block < w.heap.size → F a.block) : Keeps F w (w'.setCell a u) :=
  h.trans (G := OneB a.block) ⟨rfl, rfl, rfl, by simp [World.setCell], fun k _ hk => Below.heap_setCell _ _ _ _ hk⟩ (fun _ _ f => f) (fun i hi e => by cases e; exact ha hi)
theorem Keeps.cell {F : Nat → Prop} {w w' : World} (h : Keeps F w w') {a : Addr} {v : Value} (hc : w.cell? a = some v) (hn : ¬ F a.block) : w'.cell? a = some v := by
  have hb := World.block_lt_of_cell? w a hc
  rw [World.cell?_of_block (h.block a.block hb hn)]; exact hc
theorem Keeps.obj {F : Nat → Prop} {w w' : World} (h : Keeps F w w') {b : Nat} {o : Obj} (hc : w.heap[b]? = some o) (hn : ¬ F b) : w'.heap[b]? = some o := by
  rw [h.block b (Array.getElem?_eq_some_iff.1 hc).1 hn]; exact hc

/-- The bytes xs lie from A on. -/
def Rd (w : World) (A : Option Addr) (xs : List UInt8) : Prop :=
  ∀ i (h : i < xs.length), ∃ b o, A = some ⟨b, o, none⟩ ∧ w.cell? ⟨b, o + i, none⟩ = some (.int .u8 (xs[i].toNat : Int))
/-- v is a slice of bytes: xs. F holds of no block that it reads. -/
def Bts (w : World) (v : Value) (xs : List UInt8) : Prop :=
  ∃ A c, v = .slice A xs.length c ∧ xs.length ≤ c ∧ c ≤ maxLen ∧ (A = none → c = 0) ∧ (0 < c → ∀ a, A = some a → a.spot = none ∧ a.block < w.heap.size) ∧ Rd w A xs
/-- The slice value lies in no block of F. -/
def Off (F : Nat → Prop) (v : Value) : Prop := ∀ b, v.ownBlock = some b → ¬ F b
/-- The slice value reads nothing in F. -/
def OffR (F : Nat → Prop) (v : Value) : Prop := ∀ a n c, v = .slice (some a) n c → 0 < c → ¬ F a.block
theorem Off.r {F : Nat → Prop} {v : Value} (h : Off F v) : OffR F v := fun a n c e _ => h a.block (by rw [e]; rfl)

theorem Bts.nil (w : World) : Bts w (.slice none 0 0) [] := ⟨none, 0, rfl, Nat.le_refl _, Nat.zero_le _, fun _ => rfl, (fun _ _ h => by cases h), (fun _ h => by simp at h)⟩
theorem Bts.keeps {F : Nat → Prop} {w w' : World} {v : Value} {xs : List UInt8} (h : Bts w v xs) (k : Keeps F w w') (hF : OffR F v) : Bts w' v xs := by
  obtain ⟨A, c, rfl, h1, h2, h3, h4, h5⟩ := h
  refine ⟨A, c, rfl, h1, h2, h3, fun hc a ha => ⟨(h4 hc a ha).1, Nat.lt_of_lt_of_le (h4 hc a ha).2 k.size⟩, fun i hi => ?_⟩
  obtain ⟨b, o, rfl, hc⟩ := h5 i hi
  exact ⟨b, o, rfl, k.cell hc (hF ⟨b, o, none⟩ xs.length c rfl (by omega))⟩
theorem Bts.below {w w' : World} {v : Value} {xs : List UInt8} (h : Bts w v xs) (k : Below w.heap.size w w') : Bts w' v xs :=
  h.keeps (F := NoB) (Keeps.of_below k _) (fun _ _ _ _ _ f => f)
theorem Bts.drewN {w : World} {v : Value} {xs : List UInt8} (h : Bts w v xs) (n : Nat) : Bts (w.drewN n) v xs := h
def u8v (x : UInt8) : Value := .int .u8 (x.toNat : Int)
def bvs (xs : List UInt8) : List Value := xs.map u8v
theorem bvs_length (xs : List UInt8) : (bvs xs).length = xs.length := by simp [bvs]
theorem bvs_append (xs ys : List UInt8) : bvs (xs ++ ys) = bvs xs ++ bvs ys := by simp [bvs]
theorem bvs_one (xs : List UInt8) : ∀ u ∈ bvs xs, u.oneCell' = true := fun u hu => by obtain ⟨x, _, rfl⟩ := List.mem_map.1 hu; rfl
theorem add_lit (b o j : Nat) : (⟨b, o, none⟩ : Addr).add j = ⟨b, o + j, none⟩ := by unfold Addr.add; split <;> simp_all
/-- An owned row of bytes. -/
def Own (w : World) (base : Nat) (v : Value) (xs : List UInt8) : Prop := w.ownsRow base 5 1 v xs.length (bvs xs)
theorem Own.bts {w : World} {base : Nat} {v : Value} {xs : List UInt8} (h : Own w base v xs) : Bts w v xs := by
  obtain ⟨h1, h2⟩ := h
  rcases h2 with ⟨rfl, hn⟩ | ⟨g, cap, cur, rfl, hb, hg, hn, hc, hs, ht⟩
  · have : xs = [] := List.eq_nil_of_length_eq_zero hn
    subst this; exact Bts.nil w
  · refine ⟨some ⟨g, 0, none⟩, cap, rfl, hn, hc, (fun e => by cases e), (fun _ a ha => by cases ha; exact ⟨rfl, (Array.getElem?_eq_some_iff.1 hg).1⟩), fun i hi => ⟨g, 0, rfl, ?_⟩⟩
    rw [cell_of_row w g (0 + i) cur _ (0, 0) hg]
    have h3 : (bvs xs)[i]? = some (u8v xs[i]) := by simp [bvs, hi]
    rw [← ht, List.getElem?_take] at h3
    split at h3
    · simpa [u8v] using h3
    · cases h3
theorem Own.off {w : World} {base : Nat} {v : Value} {xs : List UInt8} (h : Own w base v xs) {F : Nat → Prop} (hF : ∀ b, base ≤ b → b < w.heap.size → ¬ F b) : Off F v :=
  fun b hb => hF b (World.ownsRow.lt h b hb).1 (World.ownsRow.lt h b hb).2
theorem Own.keeps {F : Nat → Prop} {w w' : World} {base : Nat} {v : Value} {xs : List UInt8} (h : Own w base v xs) (k : Keeps F w w') (hF : Off F v) : Own w' base v xs := by
  obtain ⟨h1, h2⟩ := h
  refine ⟨h1, ?_⟩
  rcases h2 with h2 | ⟨g, cap, cur, rfl, hb, hg, r⟩
  · exact .inl h2
  · exact .inr ⟨g, cap, cur, rfl, hb, k.obj hg (hF g rfl), r⟩
theorem Own.less {w : World} {base b : Nat} {v : Value} {xs : List UInt8} (h : Own w base v xs) (hb : b ≤ base) : Own w b v xs := by
  obtain ⟨h1, h2⟩ := h
  refine ⟨h1, ?_⟩
  rcases h2 with h2 | ⟨g, cap, cur, rfl, hb', r⟩
  · exact .inl h2
  · exact .inr ⟨g, cap, cur, rfl, Nat.le_trans hb hb', r⟩
theorem Own.nil (w : World) (base : Nat) : Own w base (.slice none 0 0) [] := World.ownsRow_nil w base _ _
/-- What the append reads. -/
theorem Rd.news {w : World} {b o : Nat} {xs : List UInt8} (h : Rd w (some ⟨b, o, none⟩) xs) : ∀ j u, (bvs xs)[j]? = some u → w.cell? ((⟨b, o, none⟩ : Addr).add j) = some u := by
  intro j u hj
  rw [add_lit]
  have hl : j < xs.length := by have := (List.getElem?_eq_some_iff.1 hj).1; simpa [bvs] using this
  obtain ⟨b', o', e, hc⟩ := h j hl
  cases e
  rw [hc]
  simpa [bvs, u8v, hl] using hj
theorem blk_cell {w : World} {g : Nat} {t : TypeId} {cs : Array Value} {f : Nat × Nat} (h : w.heap[g]? = some (.cells cs t f)) (i : Nat) : w.cell? ⟨g, i, none⟩ = cs[i]? := cell_of_row w g i cs t f h
theorem blk_set {w : World} {g : Nat} {t : TypeId} {cs : Array Value} {f : Nat × Nat} (h : w.heap[g]? = some (.cells cs t f)) (i : Nat) (u : Value) : (w.setCell ⟨g, i, none⟩ u).heap[g]? = some (.cells (cs.setIfInBounds i u) t f) := by
  simp [World.setCell, Array.getElem?_modify, h]
theorem blk_frozen {w : World} {g : Nat} {t : TypeId} {cs : Array Value} (h : w.heap[g]? = some (.cells cs t (0, 0))) (i : Nat) : w.frozen? ⟨g, i, none⟩ = false := by simp [World.frozen?, h]

theorem Bts.rd {w : World} {A : Option Addr} {n c : Nat} {xs : List UInt8} (h : Bts w (.slice A n c) xs) : n = xs.length ∧ n ≤ c ∧ c ≤ maxLen ∧ (A = none → c = 0) ∧ (0 < c → ∀ a, A = some a → a.spot = none ∧ a.block < w.heap.size) ∧ Rd w A xs := by
  obtain ⟨A', c', e, h⟩ := h
  cases e
  exact ⟨rfl, h⟩
end Go.Proofs.Ytplnneicmdlahaa
