/- simfs: slices.Equal, slices.EqualFunc. -/
import Derived.Deep.RegionHeld3
import Derived.Deep.RegionLaw
import Derived.Deep.DeepCutAuto
import Derived.Test.YtlhhcoijkjcneaaGreatSimX
import Derived.Test.YtlhhcoijkjcneaaGreatSimV
import Derived.Test.YtlhhcoijkjcneaaGreatGi
namespace Go.Proofs.YtlhhcoijkjcneaaGreat
open Go.RowKit Go.Maps Go.Lib

theorem take_snoc2 {α : Type} (xs ys : List α) (k : Nat) (h1 : k < xs.length) (h2 : k < ys.length) (ht : xs.take k = ys.take k) (he : xs[k] = ys[k]) : xs.take (k + 1) = ys.take (k + 1) := by
  rw [List.take_succ_eq_append_getElem h1, List.take_succ_eq_append_getElem h2, ht, he]
theorem eqB_any (w : World) (A B : Option Addr) (c d : Nat) (xs ys : List UInt8) (hx : Bts w (.slice A xs.length c) xs) (hy : Bts w (.slice B ys.length d) ys) :
    Calls Tryz.prog 76 #[.slice A xs.length c, .slice B ys.length d] w fun e w' => e = .returned (.bool (decide (xs = ys))) ∧ ∃ n, w' = w.drewN n := by
  have hmax : maxLen = 9223372036854775807 := rfl
  have hxl : xs.length ≤ 9223372036854775807 := by have := hx.rd.2.1; have := hx.rd.2.2.1; omega
  have hyl : ys.length ≤ 9223372036854775807 := by have := hy.rd.2.1; have := hy.rd.2.2.1; omega
  have HX := Sd.mk (rd_vrd hx.rd.2.2.2.2.2)
  have HY := Sd.mk (rd_vrd hy.rd.2.2.2.2.2)
  clear hx hy hmax
  by_cases hlen : xs.length = ys.length
  case neg =>
    have hq : ((xs.length : Int) != (ys.length : Int)) = true := by simp; omega
    have hf : Sd (decide (xs = ys) = false) := ⟨decide_eq_false (fun e => hlen (by rw [e]))⟩
    clear hlen
    go_enter Tryz.func76, Tryz.ntmps76
    go_wp2
    go_ret
    exact ⟨by rw [hf.o]; rfl, 0, rfl⟩
  have hq : ((xs.length : Int) != (ys.length : Int)) = false := by simp; omega
  have HLEN := Sd.mk hlen
  clear hlen
  go_enter Tryz.func76, Tryz.ntmps76
  go_wp2_with fail
  go_loopg [13] xs.length (fun gk i wr => ∃ (k m : Nat), gk + k = xs.length ∧ i = .int .i64 k ∧ k ≤ xs.length ∧ Sd (xs.take k = ys.take k) ∧ Sd (wr = w.drewN m))
  case atStart => exact ⟨0, 0, by omega, rfl, by omega, ⟨by simp⟩, ⟨rfl⟩⟩
  case round =>
    obtain ⟨k, m, hk, rfl, hk1, hT, ⟨rfl⟩⟩ := hrel
    by_cases hlt : k < xs.length
    · have hq1 : (k : Int) < (xs.length : Int) := by omega
      have hq2 : (k : Int) < (ys.length : Int) := by have := HLEN.o; omega
      have hq0 : (0 : Int) ≤ (k : Int) := by omega
      have hlt2 : k < ys.length := by have := HLEN.o; omega
      obtain ⟨b1, o1, rfl, g1⟩ := HX.o k (by rw [bvs_length]; exact hlt)
      obtain ⟨b2, o2, rfl, g2⟩ := HY.o k (by rw [bvs_length]; exact hlt2)
      have g1' : w.cell? ⟨b1, o1 + k, none⟩ = some (.int .u8 (xs[k].toNat : Nat)) := by rw [g1]; simp [bvs]; rfl
      have g2' : w.cell? ⟨b2, o2 + k, none⟩ = some (.int .u8 (ys[k].toNat : Nat)) := by rw [g2]; simp [bvs]; rfl
      clear g1 g2
      by_cases he : xs[k] = ys[k]
      · have hst : Sd (xs.take (k + 1) = ys.take (k + 1)) := ⟨take_snoc2 _ _ k hlt hlt2 hT.o he⟩
        have heq : ((xs[k].toNat : Int) != (ys[k].toNat : Int)) = false := by rw [he]; simp
        clear he
        generalize xs[k] = x at *
        generalize ys[k] = y at *
        go_wp2_with fail
        go_quiet (fail)
        clear g1' g2' heq
        go_wp2_with fail
        go_roundg (gk - 1)
        case measure => omega
        case rel => exact ⟨k + 1, _, by omega, by go_num, by omega, hst, ⟨rfl⟩⟩
      · have hno : Sd (decide (xs = ys) = false) := ⟨decide_eq_false (fun e => he (by simp only [e]))⟩
        have heq : ((xs[k].toNat : Int) != (ys[k].toNat : Int)) = true := by
          have : xs[k].toNat ≠ ys[k].toNat := fun h => he (UInt8.toNat_inj.1 h)
          simp; omega
        clear he
        generalize xs[k] = x at *
        generalize ys[k] = y at *
        go_wp2_with fail
        go_quiet (fail)
        clear g1' g2' heq
        go_wp2_with fail
        go_ret
        exact ⟨by rw [hno.o]; rfl, _, World.drewN_drewN _ _ _⟩
    · have hq1 : ¬ (k : Int) < (xs.length : Int) := by omega
      have hyes : Sd (decide (xs = ys) = true) := ⟨decide_eq_true (by
        have := hT.o
        rw [List.take_of_length_le (by omega), List.take_of_length_le (by have := HLEN.o; omega)] at this
        exact this)⟩
      go_wp2_with fail
      go_ret
      exact ⟨by rw [hyes.o]; rfl, _, rfl⟩
instance : DecidableEq DoneS := fun a b => decidable_of_iff (a.cut = b.cut ∧ a.pos = b.pos ∧ a.p = b.p) (by cases a; cases b; simp)
theorem sOf_toL (p : List UInt8) : (sOf p).toList = p := by rw [ByteArray.toList_eq]; simp [sOf]
theorem done_guard : Tryz.prog.eqGuardType Tryz.prog.depth 104 = false := by kernel_rfl
theorem done_held : Tryz.prog.stoodInHeld 104 = false := by kernel_rfl
theorem done_und : Tryz.prog.underlying 104 = some (.struct (Tryz.prog.fieldsOf 104)) := by kernel_rfl
set_option maxRecDepth 100000 in
theorem done_neq (w : World) (x y : DoneS) : (binOp .neq 104 (.agg #[.bool x.cut, .int .i64 x.pos, .string (sOf x.p)]) (.agg #[.bool y.cut, .int .i64 y.pos, .string (sOf y.p)])).run Tryz.prog w = .ok (.bool (!decide (x = y))) w := by
  have hf : ∃ f0 f1 f2, Tryz.prog.fieldsOf 104 = #[f0, f1, f2] ∧ f0.name ≠ "_" ∧ f1.name ≠ "_" ∧ f2.name ≠ "_" ∧ f0.type = 4 ∧ f1.type = 3 ∧ f2.type = 9 ∧ f0.offset = 0 ∧ f1.offset = 1 ∧ f2.offset = 2 := ⟨_, _, _, rfl, by decide, by decide, by decide, rfl, rfl, rfl, rfl, rfl, rfl⟩
  obtain ⟨f0, f1, f2, hf, n0, n1, n2, t0, t1, t2, o0, o1, o2⟩ := hf
  have hp0 : ∀ (a b c : Value), (part 4 #[a, b, c] 0).run Tryz.prog w = .ok a w := fun a b c => by kernel_rfl
  have hp1 : ∀ (a b c : Value), (part 3 #[a, b, c] 1).run Tryz.prog w = .ok b w := fun a b c => by kernel_rfl
  have hp2 : ∀ (a b c : Value), (part 9 #[a, b, c] 2).run Tryz.prog w = .ok c w := fun a b c => by kernel_rfl
  rw [run_neq_struct, show (10000 : Nat) = 9998 + 1 + 1 from rfl, run_equalIn_struct _ _ _ _ _ done_und done_held, hf]
  have e0 := run_equalIn_bool' (P := Tryz.prog) w 9998 4 x.cut y.cut Tryz.underlying4
  have e1 := run_equalIn_int (P := Tryz.prog) w 9998 3 .i64 .i64 (x.pos : Int) (y.pos : Int) Tryz.underlying3
  have e2 := run_equalIn_string (P := Tryz.prog) w 9998 9 (sOf x.p) (sOf y.p) Tryz.underlying9
  simp only [Op.eqFields, n0, n1, n2, t0, t1, t2, o0, o1, o2, ne_eq, not_false_eq_true, if_true, Sem.run_bind, hp0, hp1, hp2, Result.andThen_ok, e0, e1, e2, sOf_toL, Sem.run_ite, Sem.run_pure]
  by_cases hc : x.cut = y.cut
  · by_cases hn : x.pos = y.pos
    · by_cases hq : x.p = y.p
      · have : x = y := by cases x; cases y; simp_all
        subst this
        simp
      · have : x ≠ y := fun e => hq (by rw [e])
        simp [hc, hn, hq, this]
    · have : x ≠ y := fun e => hn (by rw [e])
      have hn' : ((x.pos : Int) == (y.pos : Int)) = false := by simp; omega
      simp [hc, this, hn']
  · have : x ≠ y := fun e => hc (by rw [e])
    have hc' : (x.cut == y.cut) = false := by simpa using hc
    simp [this, hc']
theorem eqD_any (w : World) (v u : Value) (xs ys : List DoneS) (hx : LogV w v xs) (hy : LogV w u ys) :
    Calls Tryz.prog 77 #[v, u] w fun e w' => e = .returned (.bool (decide (xs = ys))) ∧ ∃ n, w' = w.drewN n := by
  have hmax : maxLen = 9223372036854775807 := rfl
  obtain ⟨A, c, hv, hc1, hc2⟩ := OwnW.slice hx
  obtain ⟨B, d, hu, hd1, hd2⟩ := OwnW.slice hy
  subst hv hu
  have hxl : xs.length ≤ 9223372036854775807 := by omega
  have hyl : ys.length ≤ 9223372036854775807 := by omega
  have HX := Sd.mk hx
  have HY := Sd.mk hy
  clear hx hy hmax hc1 hc2 hd1 hd2
  by_cases hlen : xs.length = ys.length
  case neg =>
    have hq : ((xs.length : Int) != (ys.length : Int)) = true := by simp; omega
    have hf : Sd (decide (xs = ys) = false) := ⟨decide_eq_false (fun e => hlen (by rw [e]))⟩
    clear hlen
    go_enter Tryz.func77, Tryz.ntmps77
    go_wp2
    go_ret
    exact ⟨by rw [hf.o]; rfl, 0, rfl⟩
  have hq : ((xs.length : Int) != (ys.length : Int)) = false := by simp; omega
  have HLEN := Sd.mk hlen
  clear hlen
  go_enter Tryz.func77, Tryz.ntmps77
  go_wp2_with fail
  go_loopg [13] xs.length (fun gk i wr => ∃ (k m : Nat), gk + k = xs.length ∧ i = .int .i64 k ∧ k ≤ xs.length ∧ Sd (xs.take k = ys.take k) ∧ Sd (wr = w.drewN m))
  case atStart => exact ⟨0, 0, by omega, rfl, by omega, ⟨by simp⟩, ⟨rfl⟩⟩
  case round =>
    obtain ⟨k, m, hk, rfl, hk1, hT, ⟨rfl⟩⟩ := hrel
    by_cases hlt : k < xs.length
    · have hq1 : (k : Int) < (xs.length : Int) := by omega
      have hq2 : (k : Int) < (ys.length : Int) := by have := HLEN.o; omega
      have hq0 : (0 : Int) ≤ (k : Int) := by omega
      have hlt2 : k < ys.length := by have := HLEN.o; omega
      obtain ⟨g1, c1, e1, p0, p1, p2⟩ := LogV.get HX.o hlt
      obtain ⟨g2, c2, e2, r0, r1, r2⟩ := LogV.get HY.o hlt2
      cases e1
      cases e2
      have hst := Sd.mk (fun he : xs[k] = ys[k] => take_snoc2 _ _ k hlt hlt2 hT.o he)
      have hno : Sd (xs[k] ≠ ys[k] → decide (xs = ys) = false) := ⟨fun he => decide_eq_false (fun e => he (by simp only [e]))⟩
      generalize xs[k] = x at *
      generalize ys[k] = y at *
      have hne := fun W => done_neq W x y
      have hgu := done_guard
      by_cases he : x = y
      · rw [decide_eq_true he] at hne
        have hst2 := Sd.mk (hst.o he)
        clear he hst hno
        go_wp2_with fail
        go_quiet (fail)
        clear p0 p1 p2 r0 r1 r2 hne
        go_wp2_with fail
        go_roundg (gk - 1)
        case measure => omega
        case rel => exact ⟨k + 1, _, by omega, by go_num, by omega, hst2, ⟨rfl⟩⟩
      · rw [decide_eq_false he] at hne
        have hno2 := Sd.mk (hno.o he)
        clear he hst hno
        go_wp2_with fail
        go_quiet (fail)
        clear p0 p1 p2 r0 r1 r2 hne
        go_wp2_with fail
        go_ret
        exact ⟨by rw [hno2.o]; rfl, _, World.drewN_drewN _ _ _⟩
    · have hq1 : ¬ (k : Int) < (xs.length : Int) := by omega
      have hyes : Sd (decide (xs = ys) = true) := ⟨decide_eq_true (by
        have := hT.o
        rw [List.take_of_length_le (by omega), List.take_of_length_le (by have := HLEN.o; omega)] at this
        exact this)⟩
      go_wp2_with fail
      go_ret
      exact ⟨by rw [hyes.o]; rfl, _, rfl⟩
end Go.Proofs.YtlhhcoijkjcneaaGreat
namespace Go.Proofs.YtlhhcoijkjcneaaGreat
open Go.RowKit Go.Maps Go.Lib

def mSame (x y : MoveS) : Bool := decide (x.kind = y.kind) && decide (x.a = y.a) && decide (x.b = y.b)
def mNone : MoveS := ⟨0, [], [], 0⟩
def mAll (xs ys : List MoveS) : Bool := decide (xs.length = ys.length) && (List.range xs.length).all fun i => mSame (xs.getD i mNone) (ys.getD i mNone)
theorem mSame_refl (x : MoveS) : mSame x x = true := by simp [mSame]
theorem mAll_refl (xs : List MoveS) : mAll xs xs = true := by simp [mAll, mSame_refl]
set_option maxRecDepth 100000 in
theorem smove_any (w : World) (x y : MoveS) : Calls Tryz.prog 43 #[.agg #[.int .u8 (x.kind : Nat), .string (sOf x.a), .string (sOf x.b), .int .i64 (x.n : Nat)], .agg #[.int .u8 (y.kind : Nat), .string (sOf y.a), .string (sOf y.b), .int .i64 (y.n : Nat)]] w fun e w' => e = .returned (.bool (mSame x y)) ∧ Keeps NoB w w' := by
  have hk : ((x.kind : Int) == (y.kind : Int)) = decide (x.kind = y.kind) := by
    by_cases h : x.kind = y.kind
    · simp [h]
    · have : ¬ (x.kind : Int) = (y.kind : Int) := by omega
      simp [h, this]
  have ha : ((sOf x.a).toList == (sOf y.a).toList) = decide (x.a = y.a) := by rw [sOf_toL, sOf_toL]; by_cases h : x.a = y.a <;> simp [h]
  have hb : ((sOf x.b).toList == (sOf y.b).toList) = decide (x.b = y.b) := by rw [sOf_toL, sOf_toL]; by_cases h : x.b = y.b <;> simp [h]
  have HKP : Sd (∀ A B : Obj, Keeps NoB w ((w.alloc A).alloc B)) := ⟨fun A B => ((Keeps.refl NoB w).alloc A).alloc B⟩
  have hm : Sd (mSame x y = (decide (x.kind = y.kind) && decide (x.a = y.a) && decide (x.b = y.b))) := ⟨rfl⟩
  cases h1 : decide (x.kind = y.kind) <;> cases h2 : decide (x.a = y.a)
  all_goals
    rw [h1] at hk
    rw [h2] at ha
    rw [h1, h2] at hm
    clear h1 h2
    go_enter Tryz.func43, Tryz.ntmps43
    go_wp2
    go_ret
    exact ⟨by rw [hm.o]; simp, HKP.o _ _⟩
theorem getD_at {α : Type} {xs : List α} {d : α} {k : Nat} (h : k < xs.length) : xs.getD k d = xs[k] := by rw [List.getD_eq_getElem?_getD, List.getElem?_eq_getElem h]; rfl
set_option maxRecDepth 100000 in
theorem eqM_any (w : World) (v u : Value) (xs ys : List MoveS) (hx : MovesV w v xs) (hy : MovesV w u ys) :
    Calls Tryz.prog 42 #[v, u, .func (.func 43) #[] #[]] w fun e w' => e = .returned (.bool (mAll xs ys)) ∧ Keeps NoB w w' := by
  have hmax : maxLen = 9223372036854775807 := rfl
  obtain ⟨A, c, hv, hc1, hc2⟩ := OwnW.slice hx
  obtain ⟨B, d, hu, hd1, hd2⟩ := OwnW.slice hy
  subst hv hu
  have hxl : xs.length ≤ 9223372036854775807 := by omega
  have hyl : ys.length ≤ 9223372036854775807 := by omega
  have HX := Sd.mk hx
  have HY := Sd.mk hy
  clear hx hy hmax hc1 hc2 hd1 hd2
  by_cases hlen : xs.length = ys.length
  case neg =>
    have hq : ((xs.length : Int) != (ys.length : Int)) = true := by simp; omega
    have hf : Sd (mAll xs ys = false) := ⟨by unfold mAll; rw [decide_eq_false hlen]; rfl⟩
    clear hlen
    go_enter Tryz.func42, Tryz.ntmps42
    go_wp2
    go_ret
    exact ⟨by rw [hf.o]; rfl, Keeps.refl _ _⟩
  have hq : ((xs.length : Int) != (ys.length : Int)) = false := by simp; omega
  have HLEN := Sd.mk hlen
  clear hlen
  go_enter Tryz.func42, Tryz.ntmps42
  go_wp2_with fail
  go_loopg [17] xs.length (fun gk i wr => ∃ (k : Nat), gk + k = xs.length ∧ i = .int .i64 k ∧ k ≤ xs.length ∧ Sd (∀ i, i < k → mSame (xs.getD i mNone) (ys.getD i mNone) = true) ∧ Sd (Keeps NoB w wr))
  case atStart => exact ⟨0, by omega, rfl, by omega, ⟨fun i hi => by omega⟩, ⟨Keeps.refl _ _⟩⟩
  case round =>
    obtain ⟨k, hk, rfl, hk1, hT, HK⟩ := hrel
    by_cases hlt : k < xs.length
    · have hq1 : (k : Int) < (xs.length : Int) := by omega
      have hq2 : (k : Int) < (ys.length : Int) := by have := HLEN.o; omega
      have hq0 : (0 : Int) ≤ (k : Int) := by omega
      have hlt2 : k < ys.length := by have := HLEN.o; omega
      obtain ⟨g1, c1, e1, p0, p1, p2, p3⟩ := MovesV.get (OwnW.keeps HX.o HK.o (fun _ _ f => f)) hlt
      obtain ⟨g2, c2, e2, r0, r1, r2, r3⟩ := MovesV.get (OwnW.keeps HY.o HK.o (fun _ _ f => f)) hlt2
      cases e1
      cases e2
      have hst : Sd (mSame xs[k] ys[k] = true → ∀ i, i < k + 1 → mSame (xs.getD i mNone) (ys.getD i mNone) = true) := ⟨fun he i hi => by
        by_cases h : i < k
        · exact hT.o i h
        · have : i = k := by omega
          subst this
          rw [getD_at hlt, getD_at hlt2]; exact he⟩
      have hno : Sd (mSame xs[k] ys[k] = false → mAll xs ys = false) := ⟨fun he => by
        unfold mAll
        rw [Bool.and_eq_false_iff]
        right
        rw [List.all_eq_false]
        exact ⟨k, by simpa using hlt, by rw [getD_at hlt, getD_at hlt2, he]; simp⟩⟩
      generalize xs[k] = x at *
      generalize ys[k] = y at *
      have f0 : ∀ A : Obj, (wr.alloc A).cell? ⟨g2, k * 4, none⟩ = some (.int .u8 (y.kind : Nat)) := fun A => ((Keeps.refl NoB wr).alloc A).cell r0 (fun f => f)
      have f1 : ∀ A : Obj, (wr.alloc A).cell? ⟨g2, k * 4 + 1, none⟩ = some (.string (sOf y.a)) := fun A => ((Keeps.refl NoB wr).alloc A).cell r1 (fun f => f)
      have f2 : ∀ A : Obj, (wr.alloc A).cell? ⟨g2, k * 4 + 2, none⟩ = some (.string (sOf y.b)) := fun A => ((Keeps.refl NoB wr).alloc A).cell r2 (fun f => f)
      have f3 : ∀ A : Obj, (wr.alloc A).cell? ⟨g2, k * 4 + 3, none⟩ = some (.int .i64 (y.n : Nat)) := fun A => ((Keeps.refl NoB wr).alloc A).cell r3 (fun f => f)
      go_wp2_with fail
      refine (smove_any _ x y).mono ?_
      rintro e w2 ⟨rfl, hk2⟩
      have HK2 : Sd (Keeps NoB w w2) := ⟨(((HK.o).alloc _).alloc _).then hk2⟩
      clear hk2 p0 p1 p2 p3 r0 r1 r2 r3 f0 f1 f2 f3
      cases hm : mSame x y with
      | true =>
        have hst2 := Sd.mk (hst.o hm)
        clear hst hno hm
        go_wp2_with fail
        go_roundg (gk - 1)
        case measure => omega
        case rel => exact ⟨k + 1, by omega, by go_num, by omega, hst2, HK2⟩
      | false =>
        have hno2 := Sd.mk (hno.o hm)
        clear hst hno hm
        go_wp2_with fail
        go_ret
        exact ⟨by rw [hno2.o]; rfl, HK2.o⟩
    · have hq1 : ¬ (k : Int) < (xs.length : Int) := by omega
      have hyes : Sd (mAll xs ys = true) := ⟨by
        unfold mAll
        rw [decide_eq_true HLEN.o, Bool.true_and, List.all_eq_true]
        intro i hi
        exact hT.o i (by have := List.mem_range.1 hi; omega)⟩
      go_wp2_with fail
      go_ret
      exact ⟨by rw [hyes.o]; rfl, HK.o⟩
end Go.Proofs.YtlhhcoijkjcneaaGreat
namespace Go.Proofs.YtlhhcoijkjcneaaGreat
open Go.RowKit Go.Maps Go.Lib

def alikeF (x y : FileS) (now : Bool) : Bool := decide (x.safe = y.safe) && decide (x.log = y.log) && (!now || decide (x.data = y.data))
def alikeE (s1 s2 : FSt) (d2 : Dir) (now : Bool) (e : List UInt8 × Nat) : Bool := match d2.lookup e.1 with
  | none => false
  | some m => alikeF (s1.file e.2) (s2.file m) now
def alikeS (s1 : FSt) (d1 : Dir) (s2 : FSt) (d2 : Dir) (now : Bool) : Bool := decide (d1.length = d2.length) && d1.all (alikeE s1 s2 d2 now)
theorem alike_end {s1 s2 : FSt} {d1 d2 : Dir} {now : Bool} (hd : (d1.map (·.1)).Nodup) (hlen : d1.length = d2.length) (h : ∀ x k, d1.lookup x = some k → alikeE s1 s2 d2 now (x, k) = true) : alikeS s1 d1 s2 d2 now = true := by
  unfold alikeS
  rw [decide_eq_true hlen, Bool.true_and, List.all_eq_true]
  intro e he
  exact h e.1 e.2 (mem_lookup hd he)
theorem alike_no {s1 s2 : FSt} {d1 d2 : Dir} {now : Bool} {x : List UInt8} {k : Nat} (hl : d1.lookup x = some k) (h : alikeE s1 s2 d2 now (x, k) = false) : alikeS s1 d1 s2 d2 now = false := by
  unfold alikeS
  rw [Bool.and_eq_false_iff]
  right
  rw [List.all_eq_false]
  exact ⟨(x, k), lookup_mem hl, by rw [h]; simp⟩
set_option maxHeartbeats 4000000 in
set_option maxRecDepth 100000 in
theorem alike_any (w : World) (m1 m2 : FsMem) (s1 s2 : FSt) (h1 : IsFS w m1 s1) (h2 : IsFS w m2 s2) (d1 d2 : Dir) (b1 b2 : Nat) (hN1 : MapN w b1 d1) (hN2 : MapN w b2 d2) (hd1 : (d1.map (·.1)).Nodup)
    (has1 : ∀ e ∈ d1, (m1.g e.2).isSome) (has2 : ∀ e ∈ d2, (m2.g e.2).isSome) (low1 : ∀ e ∈ d1, e.2 ≤ 4611686018427387904) (low2 : ∀ e ∈ d2, e.2 ≤ 4611686018427387904) (now : Bool) :
    Calls Tryz.prog 41 #[.pointer (some ⟨m1.b, 0, none⟩), .map (some b1), .pointer (some ⟨m2.b, 0, none⟩), .map (some b2), .bool now] w fun e w' => e = .returned (.bool (alikeS s1 d1 s2 d2 now)) ∧ Keeps NoB w w' := by
  have q1 := fun ty => hN1.len ty
  have q2 := fun ty => hN2.len ty
  have H1 := Sd.mk h1
  have H2 := Sd.mk h2
  have HN1 := Sd.mk hN1
  have HN2 := Sd.mk hN2
  have HD1 := Sd.mk hd1
  have HA1 := Sd.mk has1
  have HA2 := Sd.mk has2
  have HL1 := Sd.mk low1
  have HL2 := Sd.mk low2
  clear h1 h2 hN1 hN2 hd1 has1 has2 low1 low2
  by_cases hlen : d1.length = d2.length
  case neg =>
    have hq : ((d1.length : Int) != (d2.length : Int)) = true := by simp; omega
    have hf : Sd (alikeS s1 d1 s2 d2 now = false) := ⟨by unfold alikeS; rw [decide_eq_false hlen]; rfl⟩
    clear hlen
    go_enter Tryz.func41, Tryz.ntmps41
    go_wp2
    go_ret
    exact ⟨by rw [hf.o]; rfl, Keeps.refl _ _⟩
  have hq : ((d1.length : Int) != (d2.length : Int)) = false := by simp; omega
  have HLEN := Sd.mk hlen
  clear hlen
  go_enter Tryz.func41, Tryz.ntmps41
  go_wp2_with (at_range; refine wpList_range_names rfl _ rfl rfl HN1.o ?_; intro w1 hrg hk hs)
  go_frame
  have HK1 := Sd.mk hk
  have HR1 := Sd.mk hrg
  clear hk hrg q1 q2 hq
  go_loopg [11, 12, 13, 14, 15, 16, 24] (w1.rangeLeft b1 w.heap.size) (fun gk _ _ _ _ _ _ _ wr => ∃ left, Sd (RangeN wr b1 w.heap.size d1 left) ∧ Sd (∀ x k, left x = false → d1.lookup x = some k → alikeE s1 s2 d2 now (x, k) = true) ∧ Sd (Keeps NoB w wr) ∧ gk = wr.rangeLeft b1 w.heap.size)
  case atStart => exact ⟨_, HR1, ⟨fun x k hx hl => by rw [hl] at hx; cases hx⟩, HK1, rfl⟩
  case round =>
    obtain ⟨left, HR, HYES, HK, rfl⟩ := hrel
    go_wp2_with (at_next; refine wpList_next_names rfl _ rfl rfl HR.o ?done ?more)
    case done =>
      intro hl
      have hE := Sd.mk (alike_end (s1 := s1) (s2 := s2) (now := now) HD1.o HLEN.o (fun x k h => HYES.o x k (hl x) h))
      clear hl
      go_wp2
      go_ret
      exact ⟨by rw [hE.o]; rfl, HK.o⟩
    case more =>
      intro S k w2 hS hlk hlt hrg hk hlt2 hen
      have HK2 : Sd (Keeps NoB w w2) := ⟨HK.o.iter hk (Nat.le_refl _)⟩
      have HRG := Sd.mk hrg
      have HLK := Sd.mk hlk
      have hmem := lookup_mem hlk
      have hI1 := H1.o.kept HK2.o
      have hI2 := H2.o.kept HK2.o
      have hlk2 := (HN2.o.keeps HK2.o (fun f => f)).look S hS
      cases hx2 : d2.lookup S.data.toList with
      | none =>
        rw [hx2] at hlk2
        have hE := Sd.mk (alike_no (s1 := s1) (s2 := s2) (d2 := d2) (now := now) hlk (by unfold alikeE; rw [hx2]))
        clear hI1 hI2 hmem hlk hlt hrg hk hx2
        go_wp2
        go_ret
        exact ⟨by rw [hE.o]; rfl, HK2.o⟩
      | some n2 =>
        rw [hx2] at hlk2
        have hmem2 := lookup_mem hx2
        obtain ⟨f1, hf1⟩ := Option.isSome_iff_exists.1 (HA1.o _ hmem)
        obtain ⟨f2, hf2⟩ := Option.isSome_iff_exists.1 (HA2.o _ hmem2)
        have hlook1 : ∀ n, (Instr.lookup 76 (.map (some m1.mf)) (.int .i64 (k : Nat)) false).run Tryz.prog (w2.drewN n) = .ok (.pointer (some ⟨f1.fb, 0, none⟩)) (w2.drewN n) := fun n => by
          have := (hI1.kept ((Keeps.refl NoB w2).drewN n)).files.look k (HL1.o _ hmem)
          rw [hf1] at this
          exact this
        have hlook2 : ∀ n, (Instr.lookup 76 (.map (some m2.mf)) (.int .i64 (n2 : Nat)) false).run Tryz.prog (w2.drewN n) = .ok (.pointer (some ⟨f2.fb, 0, none⟩)) (w2.drewN n) := fun n => by
          have := (hI2.kept ((Keeps.refl NoB w2).drewN n)).files.look n2 (HL2.o _ hmem2)
          rw [hf2] at this
          exact this
        have c1 := hI1.c.1
        have c2 := hI2.c.1
        have HF1 := Sd.mk (hI1.file k f1 hf1).2.2
        have HF2 := Sd.mk (hI2.file n2 f2 hf2).2.2
        have hAE : Sd (alikeE s1 s2 d2 now (S.data.toList, k) = alikeF (s1.file k) (s2.file n2) now) := ⟨by unfold alikeE; rw [hx2]⟩
        clear hI1 hI2 hmem hmem2 hlk hlt hrg hk hx2 hf1 hf2
        simp only [Option.getD_some, Option.isSome_some] at hlk2
        go_upto_region 9 with fail
        go_quiet (fail)
        have HK3 : Sd (Keeps NoB w2 (w2.drewN nq)) := ⟨(Keeps.refl NoB w2).drewN nq⟩
        have HLT3 : Sd ((w2.drewN nq).rangeLeft b1 w.heap.size < wr.rangeLeft b1 w.heap.size) := ⟨hlt2⟩
        have HRG3 := Sd.mk (HRG.o.keeps HK3.o (fun f => f) (fun f => f))
        have HF13 := Sd.mk (HF1.o.keeps HK3.o (fun _ _ f => f) (NotU8.noB _))
        have HF23 := Sd.mk (HF2.o.keeps HK3.o (fun _ _ f => f) (NotU8.noB _))
        have HK4 : Sd (Keeps NoB w (w2.drewN nq)) := ⟨HK2.o.then HK3.o⟩
        clear hlook1 hlook2 c1 c2 hen hlk2 HF1 HF2 HK3 HRG HK2 hlt2 HR hS hs
        generalize w2.drewN nq = w3 at *
        obtain ⟨As, cs, hsv⟩ := HF13.o.saf.slice
        obtain ⟨Bs, ds, hsv2⟩ := HF23.o.saf.slice
        obtain ⟨Ad, cd, hdv⟩ := HF13.o.dat.slice
        obtain ⟨Bd, dd, hdv2⟩ := HF23.o.dat.slice
        have CB1 : Sd (∀ wx, Keeps NoB w3 wx → wx.cell? ⟨f1.fb, 0, none⟩ = some (.slice Ad (s1.file k).data.length cd) ∧ wx.cell? ⟨f1.fb, 1, none⟩ = some (.slice As (s1.file k).safe.length cs) ∧ wx.cell? ⟨f1.fb, 2, none⟩ = some f1.lv ∧
            wx.cell? ⟨f2.fb, 0, none⟩ = some (.slice Bd (s2.file n2).data.length dd) ∧ wx.cell? ⟨f2.fb, 1, none⟩ = some (.slice Bs (s2.file n2).safe.length ds) ∧ wx.cell? ⟨f2.fb, 2, none⟩ = some f2.lv) := ⟨fun wx hk => by
          have a := (HF13.o.keeps hk (fun _ _ f => f) (NotU8.noB _)).c
          have b := (HF23.o.keeps hk (fun _ _ f => f) (NotU8.noB _)).c
          rw [hsv, hdv] at a
          rw [hsv2, hdv2] at b
          exact ⟨a.1, a.2.1, a.2.2, b.1, b.2.1, b.2.2⟩⟩
        have CS : Sd (∀ wx, Keeps NoB w3 wx → Calls Tryz.prog 76 #[.slice As (s1.file k).safe.length cs, .slice Bs (s2.file n2).safe.length ds] wx fun e w' => e = .returned (.bool (decide ((s1.file k).safe = (s2.file n2).safe))) ∧ ∃ n, w' = wx.drewN n) := ⟨fun wx hk => by
          have a := (HF13.o.keeps hk (fun _ _ f => f) (NotU8.noB _)).saf.1
          have b := (HF23.o.keeps hk (fun _ _ f => f) (NotU8.noB _)).saf.1
          rw [hsv] at a
          rw [hsv2] at b
          exact eqB_any wx As Bs cs ds _ _ a b⟩
        have CD : Sd (∀ wx, Keeps NoB w3 wx → Calls Tryz.prog 76 #[.slice Ad (s1.file k).data.length cd, .slice Bd (s2.file n2).data.length dd] wx fun e w' => e = .returned (.bool (decide ((s1.file k).data = (s2.file n2).data))) ∧ ∃ n, w' = wx.drewN n) := ⟨fun wx hk => by
          have a := (HF13.o.keeps hk (fun _ _ f => f) (NotU8.noB _)).dat.1
          have b := (HF23.o.keeps hk (fun _ _ f => f) (NotU8.noB _)).dat.1
          rw [hdv] at a
          rw [hdv2] at b
          exact eqB_any wx Ad Bd cd dd _ _ a b⟩
        have CL : Sd (∀ wx, Keeps NoB w3 wx → Calls Tryz.prog 77 #[f1.lv, f2.lv] wx fun e w' => e = .returned (.bool (decide ((s1.file k).log = (s2.file n2).log))) ∧ ∃ n, w' = wx.drewN n) := ⟨fun wx hk =>
          eqD_any wx f1.lv f2.lv _ _ (HF13.o.keeps hk (fun _ _ f => f) (NotU8.noB _)).log (HF23.o.keeps hk (fun _ _ f => f) (NotU8.noB _)).log⟩
        have hAE2 : Sd (alikeE s1 s2 d2 now (S.data.toList, k) = (decide ((s1.file k).safe = (s2.file n2).safe) && decide ((s1.file k).log = (s2.file n2).log) && (!now || decide ((s1.file k).data = (s2.file n2).data)))) := ⟨by rw [hAE.o]; rfl⟩
        clear hAE hsv hsv2 hdv hdv2 HF13 HF23
        obtain ⟨fb1, hfb1⟩ : ∃ x, x = f1.fb := ⟨_, rfl⟩
        obtain ⟨fb2, hfb2⟩ : ∃ x, x = f2.fb := ⟨_, rfl⟩
        rw [← hfb1, ← hfb2] at CB1
        rw [← hfb1, ← hfb2]
        clear hfb1 hfb2
        generalize f1.lv = lv1 at *
        generalize f2.lv = lv2 at *
        generalize decide ((s1.file k).safe = (s2.file n2).safe) = bS at *
        generalize decide ((s1.file k).log = (s2.file n2).log) = bL at *
        generalize decide ((s1.file k).data = (s2.file n2).data) = bD at *
        generalize (s1.file k).safe.length = l1 at *
        generalize (s2.file n2).safe.length = l2 at *
        generalize (s1.file k).data.length = l3 at *
        generalize (s2.file n2).data.length = l4 at *
        have hsplit : (bS = false) ∨ (bS = true ∧ bL = false) ∨ (bS = true ∧ bL = true ∧ now = false) ∨ (bS = true ∧ bL = true ∧ now = true ∧ bD = false) ∨ (bS = true ∧ bL = true ∧ now = true ∧ bD = true) := by
          cases bS <;> cases bL <;> cases now <;> cases bD <;> simp
        rcases hsplit with rfl | ⟨rfl, rfl⟩ | ⟨rfl, rfl, rfl⟩ | ⟨rfl, rfl, rfl, rfl⟩ | ⟨rfl, rfl, rfl, rfl⟩
        all_goals
          go_upto_region 10 with fail
          refine wp_region_flow_lit (R := Keeps NoB) (w0 := w3) (fun w => Keeps.refl _ w) (fun _ _ _ h k => h.then k) (by kernel_rfl) (by kernel_rfl) (Keeps.refl _ _).drew ?_
          repeat (first
            | (apply flow_skip
               · intro _; rfl
               intro K hK
               go_simp
               refine hK _ ?_
               clear hK K)
            | (apply flow_const
               · intro _; kernel_rfl
               · intro s wx hR hF
                 obtain ⟨a0, a1, a2, e0, e1, e2⟩ := CB1.o wx hR
                 clear hF
                 unfold flowAt
                 go_simp
                 first
                   | exact ⟨Keeps.refl _ _, rfl⟩
                   | (simp only [flowUpon]
                      first
                        | (go_at_call 76
                           first
                             | (with_reducible refine (CS.o wx hR).mono ?_; rintro e w' ⟨rfl, n, rfl⟩; exact ⟨_, rfl, (Keeps.refl _ _).drewN n, rfl⟩)
                             | (with_reducible refine (CD.o wx hR).mono ?_; rintro e w' ⟨rfl, n, rfl⟩; exact ⟨_, rfl, (Keeps.refl _ _).drewN n, rfl⟩))
                        | (go_at_call 77
                           refine (CL.o wx hR).mono ?_; rintro e w' ⟨rfl, n, rfl⟩; exact ⟨_, rfl, (Keeps.refl _ _).drewN n, rfl⟩))
               intro K hK
               go_simp
               refine hK _ ?_
               clear hK K))
          apply flow_nil
          intro s w4 hk4 hF
          clear hF
          have HK5 : Sd (Keeps NoB w w4) := ⟨HK4.o.then hk4⟩
          have HRG5 := Sd.mk (HRG3.o.keeps hk4 (fun f => f) (fun f => f))
          have HLT5 : Sd (w4.rangeLeft b1 w.heap.size < wr.rangeLeft b1 w.heap.size) := ⟨by rw [rangeLeft_keeps HRG3.o hk4 (fun f => f) (fun f => f)]; exact HLT3.o⟩
          clear hk4 HRG3 HLT3 HK4 CS CL CD CB1
        all_goals first
          | (have hE := Sd.mk (alike_no (s1 := s1) (s2 := s2) (d2 := d2) HLK.o (hAE2.o.trans (by simp)))
             clear hAE2
             go_wp2
             go_ret
             exact ⟨by rw [hE.o]; rfl, HK5.o⟩)
          | (have hY := Sd.mk (hAE2.o.trans (show _ = true by simp))
             clear hAE2
             go_wp2
             go_roundg (w4.rangeLeft b1 w.heap.size)
             case measure => exact HLT5.o
             case rel =>
               refine ⟨_, HRG5, ⟨fun x j hx hl => ?_⟩, HK5, rfl⟩
               by_cases hxs : x = S.data.toList
               · subst hxs
                 rw [HLK.o] at hl; cases hl; exact hY.o
               · refine HYES.o x j ?_ hl
                 have hb : (x != S.data.toList) = true := by simpa using hxs
                 rw [hb] at hx
                 simpa using hx)
/-- Whether two file systems are told as the same. -/
def FSt.same (s1 s2 : FSt) : Bool := alikeS s1 s1.D s2 s2.D true && alikeS s1 s1.S s2 s2.S false && mAll s1.M s2.M
theorem alikeF_refl (x : FileS) (now : Bool) : alikeF x x now = true := by simp [alikeF]
theorem alikeS_refl (s : FSt) (d : Dir) (hd : (d.map (·.1)).Nodup) (now : Bool) : alikeS s d s d now = true :=
  alike_end hd rfl fun x k h => by
    unfold alikeE
    rw [h]
    exact alikeF_refl _ _
end Go.Proofs.YtlhhcoijkjcneaaGreat
