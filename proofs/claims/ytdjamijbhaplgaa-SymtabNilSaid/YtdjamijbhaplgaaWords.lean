/- Words: texts, what is kept, rows that are written. -/
import Derived.Test.YtdjamijbhaplgaaOctS
namespace Go.Proofs.Ytdjamijbhaplgaa
open Go.RowKit
theorem cv_bts {w : World} {A : Option Addr} {n c : Nat} {xs : List UInt8} (h : Bts w (.slice A n c) xs) : (convert 26 9 (.slice A n c)).run Try.prog w = .ok (.string (sOf xs)) w := by
  have e := h.rd.1
  subst e
  exact conv_rd (P := Try.prog) w 26 5 9 Try.underlying26 Try.underlying5 Try.underlying9 A xs c h.rd.2.2.2.2.2
theorem Bts.kept {w w' : World} {v : Value} {xs : List UInt8} (h : Bts w v xs) (k : Keeps NoB w w') : Bts w' v xs := h.keeps k (fun _ _ _ _ _ f => f)
theorem OwnV.kept {w w' : World} {e : TypeId} {v : Value} {vs : List Value} (h : OwnV w e v vs) (k : Keeps NoB w w') : OwnV w' e v vs := h.keeps k (fun _ _ f => f)
theorem LRd.kept {w w' : World} {A : Option Addr} {ls : List (List UInt8)} (h : LRd w A ls) (k : Keeps NoB w w') : LRd w' A ls := h.keeps k (fun _ _ f => f)
theorem LOwn.kept {w w' : World} {v : Value} {ls : List (List UInt8)} (h : LOwn w v ls) (k : Keeps NoB w w') : LOwn w' v ls := by
  obtain ⟨vs, hl, ho, hb⟩ := h
  exact ⟨vs, hl, ho.kept k, fun i hi hi' => (hb i hi hi').kept k⟩
theorem flat_take_le (ls : List (List UInt8)) (k : Nat) : (ls.take k).flatten.length ≤ ls.flatten.length := by
  have e2 : ls.flatten = (ls.take k).flatten ++ (ls.drop k).flatten := by rw [← List.flatten_append, List.take_append_drop]
  rw [e2, List.length_append]; omega
theorem framesGo_len : ∀ (n : Nat) (p : List UInt8) (k : Nat) (acc : List (List UInt8)), acc.length ≤ k → k ≤ p.length → (framesGo n p k acc).1.length ≤ p.length
  | 0, p, k, acc, h, h2 => by simp [framesGo]; omega
  | n + 1, p, k, acc, h, h2 => by
    unfold framesGo
    split
    · split
      · rename_i h3 h4
        have := openL_ok (p.drop k) h4
        rw [List.length_drop] at this
        exact framesGo_len n p _ _ (by simp; omega) (by omega)
      · simp; omega
    · simp; omega
theorem framesL_len (p : List UInt8) : (framesL p).1.length ≤ p.length := framesGo_len _ p 0 [] (by simp) (by omega)
/-- The block of an owned row of bytes that is not empty. -/
theorem OwnV.blk {w : World} {A : Option Addr} {n c : Nat} {xs : List UInt8} (h : OwnV w 5 (.slice A n c) (bvs xs)) (hp : 0 < xs.length) : ∃ g cur, A = some ⟨g, 0, none⟩ ∧ n = xs.length ∧ w.heap[g]? = some (.cells cur 5 (0, 0)) ∧ n ≤ c ∧ c ≤ maxLen ∧ cur.size = c ∧ cur.toList.take n = bvs xs := by
  have hl := bvs_length xs
  obtain ⟨h1, h2⟩ := h
  rcases h2 with ⟨e0, hn⟩ | ⟨g, cap, cur, e0, hb, hg, hn, hc, hs, ht⟩
  · omega
  · injection e0 with e1 e2 e3
    subst e1 e3
    rw [hl] at e2
    subst e2
    rw [hl, Nat.mul_one] at ht
    exact ⟨g, cur, rfl, rfl, hg, by rw [hl] at hn; exact hn, hc, by rw [hs]; omega, ht⟩
theorem own_set {w : World} {g n c b : Nat} {cur : Array Value} {xs : List UInt8} (hg : w.heap[g]? = some (.cells cur 5 (0, 0))) (hn : n = xs.length) (hnc : n ≤ c) (hcm : c ≤ maxLen) (hs : cur.size = c) (ht : cur.toList.take n = bvs xs) (y : UInt8) (u : Value) (hu : u = u8v y) :
    OwnV (w.setCell ⟨g, b, none⟩ u) 5 (.slice (some ⟨g, 0, none⟩) n c) (bvs (xs.set b y)) := by
  subst hu
  refine ⟨by simp [bvs], .inr ⟨g, c, cur.setIfInBounds b (u8v y), by simp [bvs, hn], Nat.zero_le _, blk_set hg b _, by simp [bvs]; omega, hcm, by simp [hs], ?_⟩⟩
  simp only [bvs_length, List.length_set, Nat.mul_one, Array.toList_setIfInBounds]
  rw [← hn, List.take_set, ht]
  simp [bvs]
theorem Keeps.set {w w' : World} (h : Keeps NoB w w') (g b : Nat) (u : Value) (hg : w.heap.size ≤ g) : Keeps NoB w (w'.setCell ⟨g, b, none⟩ u) :=
  h.trans (G := OneB g) ⟨rfl, rfl, rfl, by simp [World.setCell], fun k _ hk => Below.heap_setCell _ _ _ _ hk⟩ (fun _ _ f => f) (fun i hi e => by cases e; omega)
theorem xor_u8 (a b : Nat) (ha : a < 2 ^ 8) (hb : b < 2 ^ 8) : bits .xor .u8 (a : Int) (b : Int) = ((a ^^^ b : Nat) : Int) := by
  have hx : a ^^^ b < 2 ^ 8 := Nat.xor_lt_two_pow ha hb
  have h1 : (BitVec.ofInt 8 (a : Int)).toNat = a := by
    rw [BitVec.ofInt_natCast, BitVec.toNat_ofNat]; exact Nat.mod_eq_of_lt ha
  have h2 : (BitVec.ofInt 8 (b : Int)).toNat = b := by
    rw [BitVec.ofInt_natCast, BitVec.toNat_ofNat]; exact Nat.mod_eq_of_lt hb
  show IntKind.u8.wrap ((BitVec.ofInt 8 (a : Int) ^^^ BitVec.ofInt 8 (b : Int)).toNat : Int) = _
  rw [BitVec.toNat_xor, h1, h2]
  exact wraps_u8 _ (by omega) (by exact_mod_cast hx)
theorem LRd.take {w : World} {A : Option Addr} {ls : List (List UInt8)} (h : LRd w A ls) (k : Nat) : LRd w A (ls.take k) := by
  obtain ⟨vs, hl, hv, hb⟩ := h
  refine ⟨vs.take k, by simp [hl], fun i hi => ?_, fun i hi hi' => ?_⟩
  · rw [List.length_take] at hi
    obtain ⟨b, o, e, hc⟩ := hv i (by omega)
    exact ⟨b, o, e, by rw [hc]; simp⟩
  · rw [List.length_take] at hi
    simp only [List.getElem_take]
    exact hb i (by omega) (by omega)
end Go.Proofs.Ytdjamijbhaplgaa
