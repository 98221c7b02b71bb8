/- simfs: the law's long. -/
import Derived.Test.YtlhhcoijkjcneaaGreatSimAc
import Derived.Test.YtlhhcoijkjcneaaGreatSimX
namespace Go.Proofs.YtlhhcoijkjcneaaGreat
open Go.RowKit

def ActM.weight (y : ActM) : Nat := y.data.length + y.a.size + y.b.size + y.L.length
def weightL (l : List ActM) : Nat := ((l.take 61).map ActM.weight).sum
def longL (l : List ActM) : Bool := decide (60 < l.length) || decide (20000 < weightL l)
theorem weight_take (l : List ActM) (k : Nat) (hk : k < l.length) : ((l.take (k + 1)).map ActM.weight).sum = ((l.take k).map ActM.weight).sum + (l[k]).weight := by
  rw [List.take_succ_eq_append_getElem hk, List.map_append, List.sum_append]; simp
theorem weight_le {w : World} {l : List ActM} (h : ∀ y ∈ l, y.Good w) (k : Nat) : ((l.take k).map ActM.weight).sum ≤ k * 562949953404928 := by
  induction k with
  | zero => simp
  | succ k ih =>
    by_cases hk : k < l.length
    · rw [weight_take l k hk]
      have g := h _ (List.getElem_mem hk)
      have := g.la; have := g.lb; have := g.ld; have := g.lt
      have : (l[k]).weight ≤ 562949953404928 := by unfold ActM.weight; omega
      omega
    · have e : l.take (k + 1) = l.take k := by rw [List.take_of_length_le (Nat.le_of_not_lt (fun h => hk (by omega))), List.take_of_length_le (Nat.le_of_not_lt hk)]
      rw [e]
      exact Nat.le_trans ih (Nat.mul_le_mul_right _ (Nat.le_succ k))
set_option maxRecDepth 100000 in
set_option maxHeartbeats 2000000 in
theorem long_any (w : World) (A : Option Addr) (c : Nat) (l : List ActM) (h : ARd w A l) (hg : ∀ y ∈ l, y.Good w) (hl : l.length ≤ 9223372036854775807) :
    Calls Tryz.prog 5 #[.slice A l.length c] w fun e w' => e = .returned (.bool (longL l)) ∧ Keeps NoB w w' := by
  have H := Sd.mk h
  have HG := Sd.mk hg
  clear h hg
  go_enter Tryz.func5, Tryz.ntmps5
  go_wp2_with fail
  go_loopg [3, 4] (61 : Nat) (fun gk a b wr => ∃ (k : Nat), gk + k = 61 ∧ a = .int .i64 (((l.take k).map ActM.weight).sum : Nat) ∧ b = .int .i64 k ∧ k ≤ l.length ∧ Sd (Keeps NoB w wr))
  case atStart => exact ⟨0, rfl, rfl, rfl, Nat.zero_le _, ⟨Keeps.refl _ _⟩⟩
  case round =>
    obtain ⟨k, hk, rfl, rfl, hk1, HK⟩ := hrel
    have hub := weight_le HG.o k
    by_cases hlt : k < l.length
    · have hq1 : (k : Int) < (l.length : Int) := by omega
      by_cases hle : k ≤ 60
      · have hq2 : (k : Int) ≤ 60 := by omega
        obtain ⟨g, o, e, c0, c1, c2, c3, c4, c5, c6, c7, c8⟩ := (H.o.kept HK.o).at_ k hlt
        subst e
        have hG := HG.o _ (List.getElem_mem hlt)
        have b1 := hG.la
        have b2 := hG.lb
        have b3 := hG.ld
        have b4 := hG.lt
        have HT := Sd.mk (weight_take l k hlt)
        have HWT : Sd ((l[k]).weight = (l[k]).data.length + (l[k]).a.size + (l[k]).b.size + (l[k]).L.length) := ⟨rfl⟩
        clear hG
        generalize l[k] = y at *
        generalize ((l.take k).map ActM.weight).sum = acc at *
        have hq0 : (0 : Int) ≤ (k : Int) := by omega
        go_wp2_with fail
        go_region
        go_wp2
        go_roundg (gk - 1)
        case measure => omega
        case rel => exact ⟨k + 1, by omega, by rw [HT.o, HWT.o]; go_num, by go_num, by omega, ⟨HK.o.drew⟩⟩
      · have hq2 : ¬ (k : Int) ≤ 60 := by omega
        have hk61 : k = 61 := by omega
        subst hk61
        have hq3 : (60 : Int) < (l.length : Int) := by omega
        have HR : Sd (longL l = true) := ⟨by unfold longL; rw [decide_eq_true (by omega)]; rfl⟩
        go_wp2
        go_ret
        exact ⟨by rw [HR.o]; rfl, HK.o⟩
    · have hq1 : ¬ (k : Int) < (l.length : Int) := by omega
      have hkl : k = l.length := by omega
      subst hkl
      have HWL : Sd (((l.take l.length).map ActM.weight).sum = weightL l) := ⟨by unfold weightL; rw [List.take_of_length_le (Nat.le_refl _), List.take_of_length_le (by omega)]⟩
      rw [HWL.o] at hub ⊢
      by_cases h60 : 60 < l.length
      · have hq3 : (60 : Int) < (l.length : Int) := by omega
        have HR : Sd (longL l = true) := ⟨by unfold longL; rw [decide_eq_true h60]; rfl⟩
        go_wp2
        go_ret
        exact ⟨by rw [HR.o]; rfl, HK.o⟩
      · have hq3 : ¬ (60 : Int) < (l.length : Int) := by omega
        have HR : Sd (longL l = decide (20000 < weightL l)) := ⟨by unfold longL; rw [decide_eq_false h60]; rfl⟩
        by_cases hw : 20000 < weightL l
        · have hq4 : (20000 : Int) < (weightL l : Int) := by omega
          have HR2 : Sd (longL l = true) := ⟨by rw [HR.o, decide_eq_true hw]⟩
          go_wp2
          go_ret
          exact ⟨by rw [HR2.o]; rfl, HK.o⟩
        · have hq4 : ¬ (20000 : Int) < (weightL l : Int) := by omega
          have HR2 : Sd (longL l = false) := ⟨by rw [HR.o, decide_eq_false hw]⟩
          go_wp2
          go_ret
          exact ⟨by rw [HR2.o]; rfl, HK.o⟩
theorem longL_no {l : List ActM} (h : longL l = false) : l.length ≤ 60 ∧ ∀ y ∈ l, y.weight ≤ 20000 := by
  unfold longL at h
  rw [Bool.or_eq_false_iff] at h
  have h1 : ¬ 60 < l.length := of_decide_eq_false h.1
  have h2 : ¬ 20000 < weightL l := of_decide_eq_false h.2
  refine ⟨by omega, fun y hy => ?_⟩
  unfold weightL at h2
  rw [List.take_of_length_le (by omega)] at h2
  have := sum_ge (List.mem_map.2 ⟨y, hy, rfl⟩ : y.weight ∈ l.map ActM.weight)
  omega
end Go.Proofs.YtlhhcoijkjcneaaGreat
