/- simfs: slices.Equal, slices.EqualFunc. -/
import Derived.Test.YtplnneicmdlahaaSimX
namespace Go.Proofs.Ytplnneicmdlahaa
open Go.RowKit Go.Maps Go.Lib

theorem take_snoc2 {α : Type} (xs ys : List α) (k : Nat) (h1 : k < xs.length) (h2 : k < ys.length) (ht : xs.take k = ys.take k) (he : xs[k] = ys[k]) : xs.take (k + 1) = ys.take (k + 1) := by
  rw [List.take_succ_eq_append_getElem h1, List.take_succ_eq_append_getElem h2, ht, he]
theorem eqB_any (w : World) (A B : Option Addr) (c d : Nat) (xs ys : List UInt8) (hx : Bts w (.slice A xs.length c) xs) (hy : Bts w (.slice B ys.length d) ys) :
    Calls Try.prog 46 #[.slice A xs.length c, .slice B ys.length d] w fun e w' => e = .returned (.bool (decide (xs = ys))) ∧ ∃ n, w' = w.drewN n := by
  have hmax : maxLen = 9223372036854775807 := rfl
  have hxl : xs.length ≤ 9223372036854775807 := by have := hx.rd.2.1; have := hx.rd.2.2.1; omega
  have hyl : ys.length ≤ 9223372036854775807 := by have := hy.rd.2.1; have := hy.rd.2.2.1; omega
  have HX := Sd.mk (rd_vrd hx.rd.2.2.2.2.2)
  have HY := Sd.mk (rd_vrd hy.rd.2.2.2.2.2)
  clear hx hy hmax
  by_cases hlen : xs.length = ys.length
  case neg =>
    have hq : ((xs.length : Int) != (ys.length : Int)) = true := by simp; omega
    have hf : Sd (decide (xs = ys) = false) := ⟨decide_eq_false (fun e => hlen (by rw [e]))⟩
    clear hlen
    go_enter Try.func46, Try.ntmps46
    go_wp2
    go_ret
    exact ⟨by rw [hf.o]; rfl, 0, rfl⟩
  have hq : ((xs.length : Int) != (ys.length : Int)) = false := by simp; omega
  have HLEN := Sd.mk hlen
  clear hlen
  go_enter Try.func46, Try.ntmps46
  go_wp2_with fail
  go_loopg [13] xs.length (fun gk i wr => ∃ (k m : Nat), gk + k = xs.length ∧ i = .int .i64 k ∧ k ≤ xs.length ∧ Sd (xs.take k = ys.take k) ∧ Sd (wr = w.drewN m))
  case atStart => exact ⟨0, 0, by omega, rfl, by omega, ⟨by simp⟩, ⟨rfl⟩⟩
  case round =>
    obtain ⟨k, m, hk, rfl, hk1, hT, ⟨rfl⟩⟩ := hrel
    by_cases hlt : k < xs.length
    · have hq1 : (k : Int) < (xs.length : Int) := by omega
      have hq2 : (k : Int) < (ys.length : Int) := by have := HLEN.o; omega
      have hq0 : (0 : Int) ≤ (k : Int) := by omega
      have hlt2 : k < ys.length := by have := HLEN.o; omega
      obtain ⟨b1, o1, rfl, g1⟩ := HX.o k (by rw [bvs_length]; exact hlt)
      obtain ⟨b2, o2, rfl, g2⟩ := HY.o k (by rw [bvs_length]; exact hlt2)
      have g1' : w.cell? ⟨b1, o1 + k, none⟩ = some (.int .u8 (xs[k].toNat : Nat)) := by rw [g1]; simp [bvs]; rfl
      have g2' : w.cell? ⟨b2, o2 + k, none⟩ = some (.int .u8 (ys[k].toNat : Nat)) := by rw [g2]; simp [bvs]; rfl
      clear g1 g2
      by_cases he : xs[k] = ys[k]
      · have hst : Sd (xs.take (k + 1) = ys.take (k + 1)) := ⟨take_snoc2 _ _ k hlt hlt2 hT.o he⟩
        have heq : ((xs[k].toNat : Int) != (ys[k].toNat : Int)) = false := by rw [he]; simp
        clear he
        generalize xs[k] = x at *
        generalize ys[k] = y at *
        go_wp2_with fail
        go_quiet (fail)
        clear g1' g2' heq
        go_wp2_with fail
        go_roundg (gk - 1)
        case measure => omega
        case rel => exact ⟨k + 1, _, by omega, by go_num, by omega, hst, ⟨rfl⟩⟩
      · have hno : Sd (decide (xs = ys) = false) := ⟨decide_eq_false (fun e => he (by simp only [e]))⟩
        have heq : ((xs[k].toNat : Int) != (ys[k].toNat : Int)) = true := by
          have : xs[k].toNat ≠ ys[k].toNat := fun h => he (UInt8.toNat_inj.1 h)
          simp; omega
        clear he
        generalize xs[k] = x at *
        generalize ys[k] = y at *
        go_wp2_with fail
        go_quiet (fail)
        clear g1' g2' heq
        go_wp2_with fail
        go_ret
        exact ⟨by rw [hno.o]; rfl, _, World.drewN_drewN _ _ _⟩
    · have hq1 : ¬ (k : Int) < (xs.length : Int) := by omega
      have hyes : Sd (decide (xs = ys) = true) := ⟨decide_eq_true (by
        have := hT.o
        rw [List.take_of_length_le (by omega), List.take_of_length_le (by have := HLEN.o; omega)] at this
        exact this)⟩
      go_wp2_with fail
      go_ret
      exact ⟨by rw [hyes.o]; rfl, _, rfl⟩
instance : DecidableEq DoneS := fun a b => decidable_of_iff (a.cut = b.cut ∧ a.pos = b.pos ∧ a.p = b.p) (by cases a; cases b; simp)
theorem sOf_toL (p : List UInt8) : (sOf p).toList = p := by rw [ByteArray.toList_eq]; simp [sOf]
theorem done_guard : Try.prog.eqGuardType Try.prog.depth 82 = false := by kernel_rfl
theorem done_held : Try.prog.stoodInHeld 82 = false := by kernel_rfl
theorem done_und : Try.prog.underlying 82 = some (.struct (Try.prog.fieldsOf 82)) := by kernel_rfl
set_option maxRecDepth 100000 in
theorem done_neq (w : World) (x y : DoneS) : (binOp .neq 82 (.agg #[.bool x.cut, .int .i64 x.pos, .string (sOf x.p)]) (.agg #[.bool y.cut, .int .i64 y.pos, .string (sOf y.p)])).run Try.prog w = .ok (.bool (!decide (x = y))) w := by
  have hf : ∃ f0 f1 f2, Try.prog.fieldsOf 82 = #[f0, f1, f2] ∧ f0.name ≠ "_" ∧ f1.name ≠ "_" ∧ f2.name ≠ "_" ∧ f0.type = 4 ∧ f1.type = 3 ∧ f2.type = 9 ∧ f0.offset = 0 ∧ f1.offset = 1 ∧ f2.offset = 2 := ⟨_, _, _, rfl, by decide, by decide, by decide, rfl, rfl, rfl, rfl, rfl, rfl⟩
  obtain ⟨f0, f1, f2, hf, n0, n1, n2, t0, t1, t2, o0, o1, o2⟩ := hf
  have hp0 : ∀ (a b c : Value), (part 4 #[a, b, c] 0).run Try.prog w = .ok a w := fun a b c => by kernel_rfl
  have hp1 : ∀ (a b c : Value), (part 3 #[a, b, c] 1).run Try.prog w = .ok b w := fun a b c => by kernel_rfl
  have hp2 : ∀ (a b c : Value), (part 9 #[a, b, c] 2).run Try.prog w = .ok c w := fun a b c => by kernel_rfl
  rw [run_neq_struct, show (10000 : Nat) = 9998 + 1 + 1 from rfl, run_equalIn_struct _ _ _ _ _ done_und done_held, hf]
  have e0 := run_equalIn_bool' (P := Try.prog) w 9998 4 x.cut y.cut Try.underlying4
  have e1 := run_equalIn_int (P := Try.prog) w 9998 3 .i64 .i64 (x.pos : Int) (y.pos : Int) Try.underlying3
  have e2 := run_equalIn_string (P := Try.prog) w 9998 9 (sOf x.p) (sOf y.p) Try.underlying9
  simp only [Op.eqFields, n0, n1, n2, t0, t1, t2, o0, o1, o2, ne_eq, not_false_eq_true, if_true, Sem.run_bind, hp0, hp1, hp2, Result.andThen_ok, e0, e1, e2, sOf_toL, Sem.run_ite, Sem.run_pure]
  by_cases hc : x.cut = y.cut
  · by_cases hn : x.pos = y.pos
    · by_cases hq : x.p = y.p
      · have : x = y := by cases x; cases y; simp_all
        subst this
        simp
      · have : x ≠ y := fun e => hq (by rw [e])
        simp [hc, hn, hq, this]
    · have : x ≠ y := fun e => hn (by rw [e])
      have hn' : ((x.pos : Int) == (y.pos : Int)) = false := by simp; omega
      simp [hc, this, hn']
  · have : x ≠ y := fun e => hc (by rw [e])
    have hc' : (x.cut == y.cut) = false := by simpa using hc
    simp [this, hc']
theorem eqD_any (w : World) (v u : Value) (xs ys : List DoneS) (hx : LogV w v xs) (hy : LogV w u ys) :
    Calls Try.prog 47 #[v, u] w fun e w' => e = .returned (.bool (decide (xs = ys))) ∧ ∃ n, w' = w.drewN n := by
  have hmax : maxLen = 9223372036854775807 := rfl
  obtain ⟨A, c, hv, hc1, hc2⟩ := OwnW.slice hx
  obtain ⟨B, d, hu, hd1, hd2⟩ := OwnW.slice hy
  subst hv hu
  have hxl : xs.length ≤ 9223372036854775807 := by omega
  have hyl : ys.length ≤ 9223372036854775807 := by omega
  have HX := Sd.mk hx
  have HY := Sd.mk hy
  clear hx hy hmax hc1 hc2 hd1 hd2
  by_cases hlen : xs.length = ys.length
  case neg =>
    have hq : ((xs.length : Int) != (ys.length : Int)) = true := by simp; omega
    have hf : Sd (decide (xs = ys) = false) := ⟨decide_eq_false (fun e => hlen (by rw [e]))⟩
    clear hlen
    go_enter Try.func47, Try.ntmps47
    go_wp2
    go_ret
    exact ⟨by rw [hf.o]; rfl, 0, rfl⟩
  have hq : ((xs.length : Int) != (ys.length : Int)) = false := by simp; omega
  have HLEN := Sd.mk hlen
  clear hlen
  go_enter Try.func47, Try.ntmps47
  go_wp2_with fail
  go_loopg [13] xs.length (fun gk i wr => ∃ (k m : Nat), gk + k = xs.length ∧ i = .int .i64 k ∧ k ≤ xs.length ∧ Sd (xs.take k = ys.take k) ∧ Sd (wr = w.drewN m))
  case atStart => exact ⟨0, 0, by omega, rfl, by omega, ⟨by simp⟩, ⟨rfl⟩⟩
  case round =>
    obtain ⟨k, m, hk, rfl, hk1, hT, ⟨rfl⟩⟩ := hrel
    by_cases hlt : k < xs.length
    · have hq1 : (k : Int) < (xs.length : Int) := by omega
      have hq2 : (k : Int) < (ys.length : Int) := by have := HLEN.o; omega
      have hq0 : (0 : Int) ≤ (k : Int) := by omega
      have hlt2 : k < ys.length := by have := HLEN.o; omega
      obtain ⟨g1, c1, e1, p0, p1, p2⟩ := LogV.get HX.o hlt
      obtain ⟨g2, c2, e2, r0, r1, r2⟩ := LogV.get HY.o hlt2
      cases e1
      cases e2
      have hst := Sd.mk (fun he : xs[k] = ys[k] => take_snoc2 _ _ k hlt hlt2 hT.o he)
      have hno : Sd (xs[k] ≠ ys[k] → decide (xs = ys) = false) := ⟨fun he => decide_eq_false (fun e => he (by simp only [e]))⟩
      generalize xs[k] = x at *
      generalize ys[k] = y at *
      have hne := fun W => done_neq W x y
      have hgu := done_guard
      by_cases he : x = y
      · rw [decide_eq_true he] at hne
        have hst2 := Sd.mk (hst.o he)
        clear he hst hno
        go_wp2_with fail
        go_quiet (fail)
        clear p0 p1 p2 r0 r1 r2 hne
        go_wp2_with fail
        go_roundg (gk - 1)
        case measure => omega
        case rel => exact ⟨k + 1, _, by omega, by go_num, by omega, hst2, ⟨rfl⟩⟩
      · rw [decide_eq_false he] at hne
        have hno2 := Sd.mk (hno.o he)
        clear he hst hno
        go_wp2_with fail
        go_quiet (fail)
        clear p0 p1 p2 r0 r1 r2 hne
        go_wp2_with fail
        go_ret
        exact ⟨by rw [hno2.o]; rfl, _, World.drewN_drewN _ _ _⟩
    · have hq1 : ¬ (k : Int) < (xs.length : Int) := by omega
      have hyes : Sd (decide (xs = ys) = true) := ⟨decide_eq_true (by
        have := hT.o
        rw [List.take_of_length_le (by omega), List.take_of_length_le (by have := HLEN.o; omega)] at this
        exact this)⟩
      go_wp2_with fail
      go_ret
      exact ⟨by rw [hyes.o]; rfl, _, rfl⟩
end Go.Proofs.Ytplnneicmdlahaa
