/- simfs: lists of moves are told as the same. -/
import Derived.Test.YtplnneicmdlahaaSimEq
import Derived.Test.YtplnneicmdlahaaSimV
namespace Go.Proofs.Ytplnneicmdlahaa
open Go.RowKit Go.Maps Go.Lib

def mSame (x y : MoveS) : Bool := decide (x.kind = y.kind) && decide (x.a = y.a) && decide (x.b = y.b)
def mNone : MoveS := ⟨0, [], [], 0⟩
def mAll (xs ys : List MoveS) : Bool := decide (xs.length = ys.length) && (List.range xs.length).all fun i => mSame (xs.getD i mNone) (ys.getD i mNone)
theorem mSame_refl (x : MoveS) : mSame x x = true := by simp [mSame]
theorem mAll_refl (xs : List MoveS) : mAll xs xs = true := by simp [mAll, mSame_refl]
set_option maxRecDepth 100000 in
theorem smove_any (w : World) (x y : MoveS) : Calls Try.prog 42 #[.agg #[.int .u8 (x.kind : Nat), .string (sOf x.a), .string (sOf x.b), .int .i64 (x.n : Nat)], .agg #[.int .u8 (y.kind : Nat), .string (sOf y.a), .string (sOf y.b), .int .i64 (y.n : Nat)]] w fun e w' => e = .returned (.bool (mSame x y)) ∧ Keeps NoB w w' := by
  have hk : ((x.kind : Int) == (y.kind : Int)) = decide (x.kind = y.kind) := by
    by_cases h : x.kind = y.kind
    · simp [h]
    · have : ¬ (x.kind : Int) = (y.kind : Int) := by omega
      simp [h, this]
  have ha : ((sOf x.a).toList == (sOf y.a).toList) = decide (x.a = y.a) := by rw [sOf_toL, sOf_toL]; by_cases h : x.a = y.a <;> simp [h]
  have hb : ((sOf x.b).toList == (sOf y.b).toList) = decide (x.b = y.b) := by rw [sOf_toL, sOf_toL]; by_cases h : x.b = y.b <;> simp [h]
  have HKP : Sd (∀ A B : Obj, Keeps NoB w ((w.alloc A).alloc B)) := ⟨fun A B => ((Keeps.refl NoB w).alloc A).alloc B⟩
  have hm : Sd (mSame x y = (decide (x.kind = y.kind) && decide (x.a = y.a) && decide (x.b = y.b))) := ⟨rfl⟩
  cases h1 : decide (x.kind = y.kind) <;> cases h2 : decide (x.a = y.a)
  all_goals
    rw [h1] at hk
    rw [h2] at ha
    rw [h1, h2] at hm
    clear h1 h2
    go_enter Try.func42, Try.ntmps42
    go_wp2
    go_ret
    exact ⟨by rw [hm.o]; simp, HKP.o _ _⟩
theorem getD_at {α : Type} {xs : List α} {d : α} {k : Nat} (h : k < xs.length) : xs.getD k d = xs[k] := by rw [List.getD_eq_getElem?_getD, List.getElem?_eq_getElem h]; rfl
set_option maxRecDepth 100000 in
theorem eqM_any (w : World) (v u : Value) (xs ys : List MoveS) (hx : MovesV w v xs) (hy : MovesV w u ys) :
    Calls Try.prog 41 #[v, u, .func (.func 42) #[] #[]] w fun e w' => e = .returned (.bool (mAll xs ys)) ∧ Keeps NoB w w' := by
  have hmax : maxLen = 9223372036854775807 := rfl
  obtain ⟨A, c, hv, hc1, hc2⟩ := OwnW.slice hx
  obtain ⟨B, d, hu, hd1, hd2⟩ := OwnW.slice hy
  subst hv hu
  have hxl : xs.length ≤ 9223372036854775807 := by omega
  have hyl : ys.length ≤ 9223372036854775807 := by omega
  have HX := Sd.mk hx
  have HY := Sd.mk hy
  clear hx hy hmax hc1 hc2 hd1 hd2
  by_cases hlen : xs.length = ys.length
  case neg =>
    have hq : ((xs.length : Int) != (ys.length : Int)) = true := by simp; omega
    have hf : Sd (mAll xs ys = false) := ⟨by unfold mAll; rw [decide_eq_false hlen]; rfl⟩
    clear hlen
    go_enter Try.func41, Try.ntmps41
    go_wp2
    go_ret
    exact ⟨by rw [hf.o]; rfl, Keeps.refl _ _⟩
  have hq : ((xs.length : Int) != (ys.length : Int)) = false := by simp; omega
  have HLEN := Sd.mk hlen
  clear hlen
  go_enter Try.func41, Try.ntmps41
  go_wp2_with fail
  go_loopg [17] xs.length (fun gk i wr => ∃ (k : Nat), gk + k = xs.length ∧ i = .int .i64 k ∧ k ≤ xs.length ∧ Sd (∀ i, i < k → mSame (xs.getD i mNone) (ys.getD i mNone) = true) ∧ Sd (Keeps NoB w wr))
  case atStart => exact ⟨0, by omega, rfl, by omega, ⟨fun i hi => by omega⟩, ⟨Keeps.refl _ _⟩⟩
  case round =>
    obtain ⟨k, hk, rfl, hk1, hT, HK⟩ := hrel
    by_cases hlt : k < xs.length
    · have hq1 : (k : Int) < (xs.length : Int) := by omega
      have hq2 : (k : Int) < (ys.length : Int) := by have := HLEN.o; omega
      have hq0 : (0 : Int) ≤ (k : Int) := by omega
      have hlt2 : k < ys.length := by have := HLEN.o; omega
      obtain ⟨g1, c1, e1, p0, p1, p2, p3⟩ := MovesV.get (OwnW.keeps HX.o HK.o (fun _ _ f => f)) hlt
      obtain ⟨g2, c2, e2, r0, r1, r2, r3⟩ := MovesV.get (OwnW.keeps HY.o HK.o (fun _ _ f => f)) hlt2
      cases e1
      cases e2
      have hst : Sd (mSame xs[k] ys[k] = true → ∀ i, i < k + 1 → mSame (xs.getD i mNone) (ys.getD i mNone) = true) := ⟨fun he i hi => by
        by_cases h : i < k
        · exact hT.o i h
        · have : i = k := by omega
          subst this
          rw [getD_at hlt, getD_at hlt2]; exact he⟩
      have hno : Sd (mSame xs[k] ys[k] = false → mAll xs ys = false) := ⟨fun he => by
        unfold mAll
        rw [Bool.and_eq_false_iff]
        right
        rw [List.all_eq_false]
        exact ⟨k, by simpa using hlt, by rw [getD_at hlt, getD_at hlt2, he]; simp⟩⟩
      generalize xs[k] = x at *
      generalize ys[k] = y at *
      have f0 : ∀ A : Obj, (wr.alloc A).cell? ⟨g2, k * 4, none⟩ = some (.int .u8 (y.kind : Nat)) := fun A => ((Keeps.refl NoB wr).alloc A).cell r0 (fun f => f)
      have f1 : ∀ A : Obj, (wr.alloc A).cell? ⟨g2, k * 4 + 1, none⟩ = some (.string (sOf y.a)) := fun A => ((Keeps.refl NoB wr).alloc A).cell r1 (fun f => f)
      have f2 : ∀ A : Obj, (wr.alloc A).cell? ⟨g2, k * 4 + 2, none⟩ = some (.string (sOf y.b)) := fun A => ((Keeps.refl NoB wr).alloc A).cell r2 (fun f => f)
      have f3 : ∀ A : Obj, (wr.alloc A).cell? ⟨g2, k * 4 + 3, none⟩ = some (.int .i64 (y.n : Nat)) := fun A => ((Keeps.refl NoB wr).alloc A).cell r3 (fun f => f)
      go_wp2_with fail
      refine (smove_any _ x y).mono ?_
      rintro e w2 ⟨rfl, hk2⟩
      have HK2 : Sd (Keeps NoB w w2) := ⟨(((HK.o).alloc _).alloc _).then hk2⟩
      clear hk2 p0 p1 p2 p3 r0 r1 r2 r3 f0 f1 f2 f3
      cases hm : mSame x y with
      | true =>
        have hst2 := Sd.mk (hst.o hm)
        clear hst hno hm
        go_wp2_with fail
        go_roundg (gk - 1)
        case measure => omega
        case rel => exact ⟨k + 1, by omega, by go_num, by omega, hst2, HK2⟩
      | false =>
        have hno2 := Sd.mk (hno.o hm)
        clear hst hno hm
        go_wp2_with fail
        go_ret
        exact ⟨by rw [hno2.o]; rfl, HK2.o⟩
    · have hq1 : ¬ (k : Int) < (xs.length : Int) := by omega
      have hyes : Sd (mAll xs ys = true) := ⟨by
        unfold mAll
        rw [decide_eq_true HLEN.o, Bool.true_and, List.all_eq_true]
        intro i hi
        exact hT.o i (by have := List.mem_range.1 hi; omega)⟩
      go_wp2_with fail
      go_ret
      exact ⟨by rw [hyes.o]; rfl, HK.o⟩
end Go.Proofs.Ytplnneicmdlahaa
