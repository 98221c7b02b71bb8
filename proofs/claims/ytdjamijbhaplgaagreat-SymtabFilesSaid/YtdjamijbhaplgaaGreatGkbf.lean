/- The document's comparison of two lists of strings. -/
import Derived.Test.YtdjamijbhaplgaaGreatGkad
import Derived.Test.YtdjamijbhaplgaaGreatGkaa
import Derived.Test.YtdjamijbhaplgaaGreatGkbe
import Derived.Test.YtdjamijbhaplgaaGreatGkag
import Derived.Test.YtdjamijbhaplgaaGreatGkaf
import Derived.Test.YtdjamijbhaplgaaGreatGkaq
namespace Go.Proofs.YtdjamijbhaplgaaGreat
open Go.RowKit
theorem sOf_lst (l : List UInt8) : (sOf l).toList = l := by rw [ByteArray.toList_eq]; rfl
theorem take_snoc3 {α : Type} (l m : List α) (k : Nat) (hl : k < l.length) (hm : k < m.length) (h : l.take k = m.take k) (he : l[k] = m[k]) : l.take (k + 1) = m.take (k + 1) := by
  rw [List.take_succ_eq_append_getElem hl, List.take_succ_eq_append_getElem hm, h, he]
set_option maxHeartbeats 4000000 in
theorem rtexts_any (w : World) (A B : Option Addr) (c d : Nat) (xs ys : List (List UInt8)) (hx : VRd w A (strs xs)) (hy : VRd w B (strs ys)) (hxl : xs.length ≤ 140737488355328) (hyl : ys.length ≤ 140737488355328) :
    Calls Tryz.prog 60 #[.slice A xs.length c, .slice B ys.length d] w fun e w' => e = .returned (.bool (decide (xs = ys))) ∧ ∃ n, w' = w.drewN n := by
  have HX := Sd.mk hx
  have HY := Sd.mk hy
  clear hx hy
  by_cases hlen : xs.length = ys.length
  case neg =>
    have hq : ((xs.length : Int) != (ys.length : Int)) = true := by simp; omega
    have hf : Sd (decide (xs = ys) = false) := ⟨decide_eq_false (fun e => hlen (by rw [e]))⟩
    clear hlen
    go_enter Tryz.func60, Tryz.ntmps60
    go_wp2
    go_ret
    exact ⟨by rw [hf.o]; rfl, 0, rfl⟩
  have hq : ((xs.length : Int) != (ys.length : Int)) = false := by simp; omega
  have HLEN := Sd.mk hlen
  clear hlen
  go_enter Tryz.func60, Tryz.ntmps60
  go_wp2_with fail
  go_loopg [5] xs.length (fun gk i wr => ∃ (k m : Nat), gk + k = xs.length ∧ i = .int .i64 k ∧ k ≤ xs.length ∧ Sd (xs.take k = ys.take k) ∧ Sd (wr = w.drewN m))
  case atStart => exact ⟨0, 0, by omega, rfl, by omega, ⟨by simp⟩, ⟨rfl⟩⟩
  case round =>
    obtain ⟨k, m, hk, rfl, hk1, hT, ⟨rfl⟩⟩ := hrel
    by_cases hlt : k < xs.length
    · have hq1 : (k : Int) < (xs.length : Int) := by omega
      have hq2 : (k : Int) < (ys.length : Int) := by have := HLEN.o; omega
      have hq0 : (0 : Int) ≤ (k : Int) := by omega
      have hlt2 : k < ys.length := by have := HLEN.o; omega
      obtain ⟨b1, o1, rfl, g1⟩ := HX.o k (by rw [strs_len]; exact hlt)
      obtain ⟨b2, o2, rfl, g2⟩ := HY.o k (by rw [strs_len]; exact hlt2)
      have g1' : w.cell? ⟨b1, o1 + k, none⟩ = some (.string (sOf xs[k])) := by rw [g1]; simp [strs]
      have g2' : w.cell? ⟨b2, o2 + k, none⟩ = some (.string (sOf ys[k])) := by rw [g2]; simp [strs]
      clear g1 g2
      by_cases he : xs[k] = ys[k]
      · have hst : Sd (xs.take (k + 1) = ys.take (k + 1)) := ⟨take_snoc3 _ _ k hlt hlt2 hT.o he⟩
        have heq : ((sOf xs[k]).toList == (sOf ys[k]).toList) = true := by rw [he]; simp
        clear he
        generalize sOf xs[k] = x at *
        generalize sOf ys[k] = y at *
        go_wp2_with fail
        go_quiet (fail)
        clear g1' g2' heq
        go_wp2_with fail
        go_roundg (gk - 1)
        case measure => omega
        case rel => exact ⟨k + 1, _, by omega, by go_num, by omega, hst, ⟨rfl⟩⟩
      · have hno : Sd (decide (xs = ys) = false) := ⟨decide_eq_false (fun e => he (by simp only [e]))⟩
        have heq : ((sOf xs[k]).toList == (sOf ys[k]).toList) = false := by rw [sOf_lst, sOf_lst]; simpa using he
        clear he
        generalize sOf xs[k] = x at *
        generalize sOf ys[k] = y at *
        go_wp2_with fail
        go_quiet (fail)
        clear g1' g2' heq
        go_wp2_with fail
        go_ret
        exact ⟨by rw [hno.o]; rfl, _, World.drewN_drewN _ _ _⟩
    · have hq1 : ¬ (k : Int) < (xs.length : Int) := by omega
      have hyes : Sd (decide (xs = ys) = true) := ⟨decide_eq_true (by
        have := hT.o
        rw [List.take_of_length_le (by omega), List.take_of_length_le (by have := HLEN.o; omega)] at this
        exact this)⟩
      go_wp2_with fail
      go_ret
      exact ⟨by rw [hyes.o]; rfl, _, rfl⟩

end Go.Proofs.YtdjamijbhaplgaaGreat
namespace Go.Proofs.YtdjamijbhaplgaaGreat
open Go.RowKit
end Go.Proofs.YtdjamijbhaplgaaGreat
namespace Go.Proofs.YtdjamijbhaplgaaGreat
open Go.RowKit Go.Maps

set_option maxHeartbeats 4000000 in
theorem trframe_any (w : World) (S : ByteArray) (hS : S.size ≤ 1000000) : Calls Tryz.prog 94 #[.string S] w fun e w' => ∃ A c, e = .returned (.slice A (frameL S.data.toList).length c) ∧ OwnV w' 5 (.slice A (frameL S.data.toList).length c) (bvs (frameL S.data.toList)) ∧ Fresh w (.slice A (frameL S.data.toList).length c) ∧ Keeps NoB w w' := by
  have hsz : S.data.toList.length = S.size := by rw [Array.length_toList]; rfl
  have hp10 := put1_len10 S.size (by omega)
  have hpt : put1 S.size ++ S.data.toList = put1T S.data.toList := by unfold put1T; rw [hsz]
  have hpl : (put1T S.data.toList).length ≤ 1000010 := by unfold put1T; rw [List.length_append, hsz]; omega
  have HPT := Sd.mk (rputtext_any w none 0 [] (Own.nil _ 0).v S (by simp; omega))
  rw [List.nil_append, hpt] at HPT
  obtain ⟨X, hX⟩ : ∃ X, X = put1T S.data.toList := ⟨_, rfl⟩
  have hfr : frameL S.data.toList = sealL X := by rw [hX]; rfl
  rw [← hX] at HPT hpl
  rw [hfr]
  clear hX hfr hpt hp10 hsz
  go_enter Tryz.func94, Tryz.ntmps94
  go_wp2_with fail
  refine HPT.o.mono ?_
  clear HPT
  rintro e w1 ⟨A1, c1, rfl, hO1, hK1, hG1⟩
  have HK1 : Sd (Keeps NoB w w1) := ⟨hK1.mono (fun i _ f => by simp [ownB, Value.ownBlock] at f)⟩
  have HC := Sd.mk (rseal_any w1 A1 c1 X hO1.bts)
  clear hO1 hK1 hG1
  go_wp2_with fail
  refine HC.o.mono ?_
  clear HC
  rintro e w2 (⟨hb, _⟩ | ⟨_, A2, c2, rfl, hO, hF, hK⟩)
  · omega
  obtain ⟨Y, hY⟩ : ∃ Y, Y = sealL X := ⟨_, rfl⟩
  have HY := Sd.mk hY
  rw [← hY] at hO hF ⊢
  clear hY
  have HP : Sd (OwnV w2 5 (.slice A2 Y.length c2) (bvs Y) ∧ Fresh w (.slice A2 Y.length c2) ∧ Keeps NoB w w2) := ⟨hO, fun k hk => by have := hF k hk; have := HK1.o.size; omega, HK1.o.then hK⟩
  clear hO hF hK
  go_wp2
  go_ret
  rw [← HY.o]
  exact ⟨A2, c2, rfl, HP.o⟩
set_option maxHeartbeats 4000000 in
set_option maxRecDepth 100000 in
theorem trbytes_any (w : World) (base b : Nat) (A : Option Addr) (c : Nat) (l : List (List UInt8)) (h : IsR w base b A c l) (hl : l.length ≤ 70000) (h64 : ∀ s ∈ l, s.length ≤ 64) (hne : 1 ≤ l.length) :
    Calls Tryz.prog 63 #[.pointer (some ⟨b, 0, none⟩)] w fun e w' => ∃ A' c', e = .returned (.slice A' (bytesL l).length c') ∧ OwnV w' 5 (.slice A' (bytesL l).length c') (bvs (bytesL l)) ∧ Fresh w (.slice A' (bytesL l).length c') ∧ Keeps NoB w w' := by
  have h0 : w.cell? ⟨b, 0, none⟩ = some (.slice A l.length c) := blk_cell h.blk 0
  have HV := Sd.mk h.own.vrd.2.2.2.2.2
  have HSZ := Sd.mk h64
  have HBY : Sd (bytesL l = (l.drop 1).flatMap frameL) := ⟨rfl⟩
  clear h h64
  go_enter Tryz.func63, Tryz.ntmps63
  go_wp2_with fail
  go_loopg [3, 4] l.length (fun gk v i wr => ∃ (k c : Nat) (ys : List UInt8) (A : Option Addr), gk + k = l.length + 1 ∧ 1 ≤ k ∧ i = .int .i64 k ∧ v = .slice A ys.length c ∧ ys.length ≤ 73 * k ∧ Sd (ys = ((l.drop 1).take (k - 1)).flatMap frameL) ∧ Sd (OwnV wr 5 (.slice A ys.length c) (bvs ys)) ∧ Sd (Keeps NoB w wr) ∧ Sd (Fresh w (.slice A ys.length c)))
  case atStart => exact ⟨1, 0, [], none, by omega, by omega, rfl, rfl, by simp, ⟨by simp⟩, ⟨(Own.nil _ 0).v⟩, ⟨Keeps.refl _ _⟩, ⟨fun k hk => by simp [Value.ownBlock] at hk⟩⟩
  case round =>
    obtain ⟨k, c0, ys, A3, hk, hk1, rfl, rfl, hyl, HY, HO, HKK, HF⟩ := hrel
    have h0' : wr.cell? ⟨b, 0, none⟩ = some (.slice A l.length c) := HKK.o.cell h0 (fun f => f)
    by_cases hlt : k < l.length
    · have hq1 : (k : Int) < (l.length : Int) := by omega
      obtain ⟨b1, o1, rfl, hc⟩ := HV.o k (by rw [strs_len]; exact hlt)
      have hc2 : wr.cell? ⟨b1, o1 + k, none⟩ = some (.string (sOf l[k])) := by rw [HKK.o.cell hc (fun f => f)]; simp [strs]
      have htk : Sd (((l.drop 1).take k).flatMap frameL = ys ++ frameL l[k]) := ⟨by
        obtain ⟨m, rfl⟩ : ∃ m, k = m + 1 := ⟨k - 1, by omega⟩
        have hm : m < (l.drop 1).length := by rw [List.length_drop]; omega
        rw [List.take_succ_eq_append_getElem hm, flatMap_snoc, HY.o]
        simp⟩
      have hs64 := HSZ.o _ (List.getElem_mem hlt)
      have hfl := frameL_len _ hs64
      clear hc
      generalize l[k] = s0 at *
      have HC := trframe_any wr (sOf s0) (by rw [sOf_size]; omega)
      rw [show (sOf s0).data.toList = s0 from rfl] at HC
      have HC2 := Sd.mk HC
      obtain ⟨S0, hS0⟩ : ∃ S0, S0 = sOf s0 := ⟨_, rfl⟩
      rw [← hS0] at HC2 hc2
      obtain ⟨X, hX⟩ : ∃ X, X = frameL s0 := ⟨_, rfl⟩
      rw [← hX] at HC2 hfl htk
      clear HC hS0 hX
      go_wp2_with fail
      refine HC2.o.mono ?_
      clear HC2
      rintro e w4 ⟨A4, c4, rfl, hO4, hF4, hK4⟩
      have HO4 := Sd.mk hO4
      have HK4 := Sd.mk hK4
      clear hO4 hF4 hK4
      go_wp2_with (at_builtin; go_must (refine app_any rfl _ _ 49 5 (.int .u8 0) 1 rfl Tryz.underlying49 infoU8' rfl (.slice A3 ys.length c0) (bvs ys) rfl (HO.o.kept HK4.o) A4 X.length c4 (bvs X) rfl (bvs_length X) (rd_vrd HO4.o.bts.rd.2.2.2.2.2) (bvs_one X) (by rw [bvs_length]; omega) (by rw [bvs_length]; omega) ?_); intro A6 c6 w6 HO6 HK6 HG6; have HP := Sd.mk (And.intro HO6 (And.intro HK6 HG6)); clear HO6 HK6 HG6)
      go_roundg (gk - 1)
      case measure => omega
      case rel =>
        obtain ⟨HO6, HK6, HG6⟩ := HP.o
        have e1 : (bvs ys).length + X.length = (ys ++ X).length := by rw [bvs_length, List.length_append]
        rw [e1] at HO6 HG6 ⊢
        rw [← bvs_append] at HO6
        have hk4 := HKK.o.then HK4.o
        exact ⟨k + 1, c6, ys ++ X, A6, by omega, by omega, by go_num, rfl, by rw [List.length_append]; omega, ⟨htk.o.symm⟩, ⟨HO6⟩, ⟨hk4.fresh HF.o HK6⟩, ⟨HF.o.grew hk4.size HG6⟩⟩
    · have hq1 : ¬ (k : Int) < (l.length : Int) := by omega
      have hfin : Sd (ys = bytesL l) := ⟨by rw [HY.o, HBY.o, List.take_of_length_le (by rw [List.length_drop]; omega)]⟩
      go_wp2
      go_ret
      rw [← hfin.o]
      exact ⟨A3, c0, rfl, HO.o, HF.o, HKK.o⟩
end Go.Proofs.YtdjamijbhaplgaaGreat
namespace Go.Proofs.YtdjamijbhaplgaaGreat
open Go.RowKit

/-- The reference's reader in block b, in a state. -/
structure IsRR (w : World) (b : Nat) (s : RSt) (A : Option Addr) (c : Nat) : Prop where
  blk : w.heap[b]? = some (.cells #[.slice A s.p.length c, .int .i64 s.pos, .int .i64 s.err, .int .i64 s.spot] 184 (0, 0))
  bts : Bts w (.slice A s.p.length c) s.p
  off : Off (OneB b) (.slice A s.p.length c)
  pos : s.pos ≤ s.p.length
  spot : s.spot ≤ s.p.length
  lo : -9223372036854775808 ≤ s.err
  hi : s.err ≤ 9223372036854775807
theorem IsRR.len {w : World} {b : Nat} {s : RSt} {A : Option Addr} {c : Nat} (h : IsRR w b s A c) : s.p.length ≤ 9223372036854775807 := by
  have := h.bts.rd
  unfold maxLen at this
  omega
theorem IsRR.keeps {F : Nat → Prop} {w w' : World} {b : Nat} {s : RSt} {A : Option Addr} {c : Nat} (h : IsRR w b s A c) (k : Keeps F w w') (hb : ¬ F b) (ho : OffR F (.slice A s.p.length c)) : IsRR w' b s A c :=
  ⟨k.obj h.blk hb, h.bts.keeps k ho, h.off, h.pos, h.spot, h.lo, h.hi⟩
theorem IsRR.drewN {w : World} {b : Nat} {s : RSt} {A : Option Addr} {c : Nat} (h : IsRR w b s A c) (n : Nat) : IsRR (w.drewN n) b s A c := ⟨h.blk, h.bts, h.off, h.pos, h.spot, h.lo, h.hi⟩
theorem IsRR.stop {w w' : World} {b : Nat} {s : RSt} {A : Option Addr} {c : Nat} (h : IsRR w b s A c) (k : Keeps (OneB b) w w') (e : Int) (at_ : Nat) (ha : at_ ≤ s.p.length)
    (hb : w'.heap[b]? = some (.cells #[.slice A s.p.length c, .int .i64 at_, .int .i64 e, .int .i64 at_] 184 (0, 0))) (h0 : -9223372036854775808 ≤ e) (h1 : e ≤ 9223372036854775807) : IsRR w' b (s.stop e at_) A c :=
  ⟨hb, h.bts.keeps k h.off.r, h.off, ha, ha, h0, h1⟩
theorem IsRR.move {w : World} {b : Nat} {s : RSt} {A : Option Addr} {c : Nat} (h : IsRR w b s A c) (w' : World) (hw : w'.heap = w.heap) (k : Nat) (hl : k ≤ s.p.length) (v : Int) (hv : v = (k : Int)) :
    IsRR (w'.setCell ⟨b, 1, none⟩ (.int .i64 v)) b { s with pos := k } A c := by
  subst hv
  have hk : Keeps (OneB b) w' (w'.setCell ⟨b, 1, none⟩ (.int .i64 ((k : Nat) : Int))) := (Keeps.refl (OneB b) w').setCell ⟨b, 1, none⟩ _ (fun _ => rfl)
  have hbt : Bts w' (.slice A s.p.length c) s.p := by
    obtain ⟨A', c', e, h1, h2, h3, h4, h5⟩ := h.bts
    exact ⟨A', c', e, h1, h2, h3, (by rw [hw]; exact h4), fun i hi => by obtain ⟨b', o', e', hc⟩ := h5 i hi; exact ⟨b', o', e', by rw [← hc]; simp [World.cell?, hw]⟩⟩
  exact ⟨blk_set (by rw [hw]; exact h.blk) 1 _, hbt.keeps hk h.off.r, h.off, hl, h.spot, h.lo, h.hi⟩

set_option maxHeartbeats 1000000 in
theorem rfail_same (w : World) (b : Nat) (e err at_ : Int) (h : w.cell? ⟨b, 2, none⟩ = some (.int .i64 err)) (hs : err ≠ 0 ∨ e = 0) :
    Calls Tryz.prog 110 #[.pointer (some ⟨b, 0, none⟩), .int .i64 e, .int .i64 at_] w fun e' w' => e' = .returned (.tuple #[]) ∧ w = w' := by
  by_cases he : err = 0
  · have h0 : (err == 0) = true := by simp [he]
    have h1 : (e != 0) = false := by simp; omega
    clear hs he
    go_enter Tryz.func110, Tryz.ntmps110
    go_wp2
    go_end0
    exact ⟨rfl, rfl⟩
  · have h0 : (err == 0) = false := by simp [he]
    clear hs he
    go_enter Tryz.func110, Tryz.ntmps110
    go_wp2
    go_end0
    exact ⟨rfl, rfl⟩
set_option maxHeartbeats 1000000 in
theorem rfail_stop (w : World) (b : Nat) (e s : Int) (p x z : Value) (h : w.heap[b]? = some (.cells #[p, x, .int .i64 0, z] 184 (0, 0))) (he : e ≠ 0) :
    Calls Tryz.prog 110 #[.pointer (some ⟨b, 0, none⟩), .int .i64 e, .int .i64 s] w fun e' w' => e' = .returned (.tuple #[]) ∧ Keeps (OneB b) w w' ∧ w'.heap[b]? = some (.cells #[p, .int .i64 s, .int .i64 e, .int .i64 s] 184 (0, 0)) := by
  have h1 : w.cell? ⟨b, 1, none⟩ = some x := blk_cell h 1
  have h2 : w.cell? ⟨b, 2, none⟩ = some (.int .i64 0) := blk_cell h 2
  have h3 : w.cell? ⟨b, 3, none⟩ = some z := blk_cell h 3
  have f1 := blk_frozen h 1
  have f2 := blk_frozen h 2
  have f3 := blk_frozen h 3
  have hne : (e != 0) = true := by simp [he]
  have H := Sd.mk h
  clear h he
  go_enter Tryz.func110, Tryz.ntmps110
  go_wp2
  go_end0
  exact ⟨rfl, (((Keeps.refl (OneB b) w).setCell ⟨b, 2, none⟩ _ (fun _ => rfl)).setCell ⟨b, 3, none⟩ _ (fun _ => rfl)).setCell ⟨b, 1, none⟩ _ (fun _ => rfl), blk_set (blk_set (blk_set H.o 2 _) 3 _) 1 _⟩
theorem rfail_some (w : World) (b : Nat) (s : RSt) (A : Option Addr) (c : Nat) (h : IsRR w b s A c) (e : Int) (h0 : -9223372036854775808 ≤ e) (h1 : e ≤ 9223372036854775807) :
    Calls Tryz.prog 110 #[.pointer (some ⟨b, 0, none⟩), .int .i64 e, .int .i64 s.pos] w fun e' w' => e' = .returned (.tuple #[]) ∧ IsRR w' b (s.fail e) A c ∧ Keeps (OneB b) w w' := by
  by_cases hs : s.err = 0 ∧ e ≠ 0
  · have hb := h.blk
    rw [hs.1] at hb
    refine (rfail_stop w b e s.pos _ _ _ hb hs.2).mono ?_
    rintro e' w' ⟨rfl, hk, hb'⟩
    rw [show s.fail e = s.stop e s.pos by simp [RSt.fail, hs]]
    exact ⟨rfl, h.stop hk e s.pos h.pos hb' h0 h1, hk⟩
  · refine (rfail_same w b e s.err s.pos (blk_cell h.blk 2) (by omega)).mono ?_
    rintro e' w' ⟨rfl, rfl⟩
    rw [show s.fail e = s by unfold RSt.fail; rw [if_neg hs]]
    exact ⟨rfl, h, Keeps.refl _ _⟩

theorem add_step (acc k c : Nat) (hacc : acc < 2 ^ (7 * k)) (hk : k ≤ 9) (hc : c < 256) (h9 : k = 9 → c ≤ 1) :
    IntKind.u64.wrap ((acc : Int) + IntKind.u64.wrap ((c : Int) % 128 * 2 ^ (7 * k))) = ((acc + (c % 128) * 2 ^ (7 * k) : Nat) : Int) := by
  have hb : acc + (c % 128) * 2 ^ (7 * k) < 18446744073709551616 := by
    by_cases h : k = 9
    · subst h
      have := h9 rfl
      have : (c % 128) * 2 ^ (7 * 9) ≤ 1 * 2 ^ (7 * 9) := Nat.mul_le_mul_right _ (by omega)
      omega
    · have h1 := acc_lt acc k c hacc
      have h2 : 2 ^ (7 * (k + 1)) ≤ 2 ^ 63 := Nat.pow_le_pow_right (by decide) (by omega)
      omega
  have e : (c : Int) % 128 * 2 ^ (7 * k) = (((c % 128) * 2 ^ (7 * k) : Nat) : Int) := by push_cast; rfl
  rw [e, u64_nat _ (by omega), ← Int.natCast_add, u64_nat _ hb]
theorem rr_stop {w w' : World} {b : Nat} {p : List UInt8} {pos spot : Nat} {A : Option Addr} {c : Nat} {E : Int} (h : IsRR w b ⟨p, pos, 0, spot⟩ A c) (hk : Keeps (OneB b) w w')
    (hb : w'.heap[b]? = some (.cells #[.slice A p.length c, .int .i64 pos, .int .i64 E, .int .i64 pos] 184 (0, 0))) (h0 : -9223372036854775808 ≤ E) (h1 : E ≤ 9223372036854775807) : IsRR w' b ⟨p, pos, E, pos⟩ A c :=
  ⟨hb, h.bts.keeps hk h.off.r, h.off, h.pos, h.pos, h0, h1⟩
theorem rr_ok {w : World} {b : Nat} {p : List UInt8} {pos spot : Nat} {A : Option Addr} {c : Nat} (h : IsRR w b ⟨p, pos, 0, spot⟩ A c) (w' : World) (hw : w'.heap = w.heap) (k : Nat) (hl : pos + k ≤ p.length) (v : Int) (hv : v = ((pos + k : Nat) : Int)) :
    IsRR (w'.setCell ⟨b, 1, none⟩ (.int .i64 v)) b ⟨p, pos + k, 0, spot⟩ A c := h.move w' hw (pos + k) hl v hv
set_option maxHeartbeats 4000000 in
set_option maxRecDepth 100000 in
theorem rnum_some (w : World) (b : Nat) (s : RSt) (A : Option Addr) (c : Nat) (h : IsRR w b s A c) :
    Calls Tryz.prog 109 #[.pointer (some ⟨b, 0, none⟩)] w fun e' w' => e' = .returned (.int .u64 s.num.1) ∧ IsRR w' b s.num.2 A c ∧ Keeps (OneB b) w w' := by
  have h0 : w.cell? ⟨b, 0, none⟩ = some (.slice A s.p.length c) := blk_cell h.blk 0
  have h1 : w.cell? ⟨b, 1, none⟩ = some (.int .i64 s.pos) := blk_cell h.blk 1
  have h2 : w.cell? ⟨b, 2, none⟩ = some (.int .i64 s.err) := blk_cell h.blk 2
  have f1 := blk_frozen h.blk 1
  have hm := h.len
  have hl := h.pos
  have H := Sd.mk h
  have HR := Sd.mk h.bts.rd.2.2.2.2.2
  clear h
  obtain ⟨p, pos, err, spot⟩ := s
  dsimp only at *
  by_cases he : err = 0
  case neg =>
    have hb : (err != 0) = true := by simpa using he
    have hfin : Sd (RSt.num ⟨p, pos, err, spot⟩ = (0, ⟨p, pos, err, spot⟩)) := ⟨by simp [RSt.num, he]⟩
    clear he
    go_enter Tryz.func109, Tryz.ntmps109
    go_wp2_with fail
    go_ret
    rw [hfin.o]
    exact ⟨rfl, H.o, Keeps.refl _ _⟩
  case pos =>
  subst he
  obtain ⟨R, hR⟩ : ∃ R, R = rdVar (p.drop pos) 0 0 := ⟨_, rfl⟩
  obtain ⟨Re, Rn, Rk⟩ := R
  have hfin : Sd (RSt.num ⟨p, pos, 0, spot⟩ = if Re = 0 then (Rn, ⟨p, pos + Rk, 0, spot⟩) else (0, ⟨p, pos, Re, pos⟩)) := ⟨by simp [RSt.num, ← hR]⟩
  have HRR := Sd.mk hR
  clear hR
  go_enter Tryz.func109, Tryz.ntmps109
  go_wp2_with fail
  go_loopg [4, 5] 10 (fun gk v i wr => ∃ (k acc : Nat), gk + k = 10 ∧ k ≤ 9 ∧ i = .int .i64 k ∧ v = .int .u64 acc ∧ acc < 2 ^ (7 * k) ∧ pos + k ≤ p.length ∧ Sd (wr = w) ∧ Sd ((Re, Rn, Rk) = rdVar (p.drop (pos + k)) k acc))
  case atStart => exact ⟨0, 0, rfl, by omega, rfl, rfl, by simp, by omega, ⟨rfl⟩, HRR⟩
  case round =>
    clear HRR
    obtain ⟨k, acc, hk, hk9, rfl, rfl, hacc, hle, ⟨rfl⟩, HRR⟩ := hrel
    by_cases hlt : pos + k = p.length
    · have hne : (p.length : Int) ≤ (pos : Int) + (k : Int) := by omega
      have hR : (Re, Rn, Rk) = (3, 0, 0) := by rw [HRR.o, List.drop_of_length_le (by omega)]; rfl
      have HR3 := Sd.mk hR
      clear hR
      go_wp2_with (go_at_call 110; refine (rfail_stop _ b _ _ _ _ _ (by exact H.o.blk) (by decide)).mono ?_; rintro e w' ⟨rfl, HK, HB⟩)
      go_ret
      cases HR3.o
      rw [hfin.o, if_neg (by decide)]
      exact ⟨rfl, rr_stop H.o HK HB (by decide) (by decide), HK⟩
    · obtain ⟨bp, op, rfl, hc⟩ := HR.o (pos + k) (by omega)
      have hc' : wr.cell? ⟨bp, op + (pos + k), none⟩ = some (.int .u8 (p[pos+k].toNat : Int)) := hc
      have hdrop : p.drop (pos + k) = p[pos+k] :: p.drop (pos + (k + 1)) := by rw [List.drop_eq_getElem_cons (by omega)]; rfl
      have HD := Sd.mk hdrop
      clear hc hdrop
      generalize p[pos+k] = cc at *
      have hne : ¬ (p.length : Int) ≤ (pos : Int) + (k : Int) := by omega
      have hi0 : (0 : Int) ≤ (pos : Int) + (k : Int) := by omega
      have hi1 : (pos : Int) + (k : Int) < (p.length : Int) := by omega
      have htn : ((pos : Int) + (k : Int)).toNat = pos + k := by omega
      have hcc : cc.toNat < 256 := cc.toNat_lt
      by_cases c1 : 9 ≤ k ∧ 1 < cc.toNat
      · have hR : (Re, Rn, Rk) = (10, 0, 0) := by rw [HRR.o, HD.o, rdVar, if_pos c1]
        have HR3 := Sd.mk hR
        clear hR
        obtain ⟨c1, c1'⟩ := c1
        go_wp2_with (go_at_call 110; refine (rfail_stop _ b _ _ _ _ _ (by exact H.o.blk) (by decide)).mono ?_; rintro e w' ⟨rfl, HK, HB⟩)
        go_ret
        cases HR3.o
        rw [hfin.o, if_neg (by decide)]
        exact ⟨rfl, rr_stop H.o HK HB (by decide) (by decide), HK⟩
      by_cases c2 : cc.toNat = 0 ∧ 0 < k
      · have hR : (Re, Rn, Rk) = (11, 0, 0) := by rw [HRR.o, HD.o, rdVar, if_neg c1, if_pos c2]
        have HR3 := Sd.mk hR
        clear hR
        obtain ⟨c2, c2'⟩ := c2
        have c2'' : ((cc.toNat : Int) == 0) = true := by simp [c2]
        have c3 : cc.toNat < 128 := by omega
        have C2 := Sd.mk c2
        clear c2
        by_cases c9 : 9 ≤ k
        all_goals
          go_wp2_with (go_at_call 110; refine (rfail_stop _ b _ _ _ _ _ (by exact H.o.blk) (by decide)).mono ?_; rintro e w' ⟨rfl, HK, HB⟩)
          go_ret
          cases HR3.o
          rw [hfin.o, if_neg (by decide)]
          exact ⟨rfl, rr_stop H.o HK HB (by decide) (by decide), HK⟩
      by_cases c3 : cc.toNat < 128
      · have hR : (Re, Rn, Rk) = (0, acc + (cc.toNat % 128) * 2 ^ (7 * k), k + 1) := by rw [HRR.o, HD.o, rdVar, if_neg c1, if_neg c2, if_pos c3]
        have HR3 := Sd.mk hR
        have h9 : k = 9 → cc.toNat ≤ 1 := by omega
        have H9 := Sd.mk h9
        clear hR h9
        by_cases c0 : cc.toNat = 0
        · have ck : k = 0 := by omega
          have c0' : ((cc.toNat : Int) == 0) = true := by simp [c0]
          have ck0 : decide ((0 : Int) < (k : Int)) = false := by simp; omega
          have ck0' : ¬ (0 : Int) < (k : Int) := by omega
          have ck9 : ¬ (9 : Int) ≤ (k : Int) := by omega
          have CK := Sd.mk ck
          clear ck c0 c1 c2
          go_wp2_with fail
          go_ret
          cases HR3.o
          rw [hfin.o, if_pos rfl]
          exact ⟨ret_int (add_step acc k _ hacc hk9 hcc H9.o), (by refine rr_ok H.o _ ?_ _ ?_ _ ?_; rfl; omega; omega), (Keeps.refl (OneB b) wr).setCell ⟨b, 1, none⟩ _ (fun _ => rfl)⟩
        · have c0' : ((cc.toNat : Int) == 0) = false := by simp [c0]
          by_cases c9 : 9 ≤ k
          all_goals
            clear c0 c2
            go_wp2_with fail
            go_ret
            cases HR3.o
            rw [hfin.o, if_pos rfl]
            exact ⟨ret_int (add_step acc k _ hacc hk9 hcc H9.o), (by refine rr_ok H.o _ ?_ _ ?_ _ ?_; rfl; omega; omega), (Keeps.refl (OneB b) wr).setCell ⟨b, 1, none⟩ _ (fun _ => rfl)⟩
      · have c4 : k < 9 := by omega
        have hR : (Re, Rn, Rk) = rdVar (p.drop (pos + (k + 1))) (k + 1) (acc + (cc.toNat % 128) * 2 ^ (7 * k)) := by rw [HRR.o, HD.o, rdVar, if_neg c1, if_neg c2, if_neg c3]
        have HR3 := Sd.mk hR
        clear hR
        go_wp2_with fail
        go_roundg (gk - 1)
        case measure => omega
        case rel =>
          exact ⟨k + 1, acc + (cc.toNat % 128) * 2 ^ (7 * k), by omega, by omega, by go_num, by rw [add_step acc k _ hacc hk9 hcc (by omega)], acc_lt _ _ _ hacc, by omega, ⟨rfl⟩, HR3⟩
end Go.Proofs.YtdjamijbhaplgaaGreat
namespace Go.Proofs.YtdjamijbhaplgaaGreat
open Go.RowKit

theorem below_none {w w' : World} {n c : Nat} (k : Keeps (ownB (.slice none n c)) w w') : Keeps NoB w w' := k.mono (fun i _ f => by simp [ownB, Value.ownBlock] at f)
set_option maxHeartbeats 1000000 in
theorem rnew_any (w : World) (A : Option Addr) (n c : Nat) (xs : List UInt8) (h : Bts w (.slice A n c) xs) (hl : xs.length ≤ 140737488355328) :
    Calls Tryz.prog 90 #[.slice A n c] w fun e w' => ∃ b A' c', e = .returned (.pointer (some ⟨b, 0, none⟩)) ∧ IsRR w' b ⟨xs, 0, 0, 0⟩ A' c' ∧ Keeps NoB w w' ∧ w.heap.size ≤ b ∧ (∀ k, (Value.slice A' xs.length c').ownBlock = some k → w.heap.size ≤ k) := by
  have H := Sd.mk h
  have e := h.rd.1
  subst e
  clear h
  go_enter Tryz.func90, Tryz.ntmps90
  go_wp2_with (at_builtin; go_must (refine app_lit0 rfl _ _ 49 5 (.int .u8 0) 1 rfl Tryz.underlying49 infoU8' rfl w.heap.size rfl rfl A xs.length c (bvs xs) rfl (bvs_length xs) (rd_vrd H.o.rd.2.2.2.2.2) (bvs_one xs) (by omega) (by omega) ?_); intro A4 c4 w4 HO4 HK4 HF4; have HP4 := Sd.mk (And.intro HO4 (And.intro HK4 HF4)); clear HO4 HK4 HF4)
  go_ret
  obtain ⟨HO, HK, HF⟩ := HP4.o
  have hk : Keeps NoB w4 (w4.alloc (.cells #[.slice A4 xs.length c4, .int .i64 0, .int .i64 0, .int .i64 0] 184)) := (Keeps.refl NoB w4).alloc _
  refine ⟨_, A4, c4, rfl, ⟨heap_alloc_new _ _, (HO.keeps hk (fun _ _ f => f)).bts, ?_, Nat.zero_le _, Nat.zero_le _, (by show (-9223372036854775808 : Int) ≤ 0; decide), (by show (0 : Int) ≤ 9223372036854775807; decide)⟩, HK.then hk, HK.size, HF⟩
  intro k hk2 e
  have := HO.lt k hk2
  cases e
  omega

set_option maxHeartbeats 2000000 in
theorem rdone_some (w : World) (b : Nat) (s : RSt) (A : Option Addr) (c : Nat) (h : IsRR w b s A c) : Calls Tryz.prog 92 #[.pointer (some ⟨b, 0, none⟩)] w fun e w' => e = .returned (.int .i64 s.done) ∧ ∃ n, w' = w.drewN n := by
  have h0 : w.cell? ⟨b, 0, none⟩ = some (.slice A s.p.length c) := blk_cell h.blk 0
  have h1 : w.cell? ⟨b, 1, none⟩ = some (.int .i64 s.pos) := blk_cell h.blk 1
  have h2 : w.cell? ⟨b, 2, none⟩ = some (.int .i64 s.err) := blk_cell h.blk 2
  have hm := h.len
  clear h
  by_cases he : s.err = 0
  · have HE := Sd.mk he
    rw [he] at h2
    by_cases hl : s.pos < s.p.length
    · have hq : decide (s.pos < s.p.length) = true := by simpa using hl
      have hf : Sd (s.done = 4) := ⟨by simp [RSt.done, he, hl]⟩
      clear he
      go_enter Tryz.func92, Tryz.ntmps92
      go_wp2_with fail
      go_quiet (fail)
      go_wp2
      go_ret
      exact ⟨by rw [hf.o]; rfl, _, rfl⟩
    · have hq : decide (s.pos < s.p.length) = false := by simp; omega
      have hf : Sd (s.done = 0) := ⟨by simp [RSt.done, he, hl]⟩
      clear he hl
      go_enter Tryz.func92, Tryz.ntmps92
      go_wp2_with fail
      go_quiet (fail)
      go_wp2
      go_ret
      exact ⟨by rw [hf.o]; rfl, _, rfl⟩
  · have hb : (s.err == 0) = false := by simp [he]
    have hf : Sd (s.done = s.err) := ⟨by simp [RSt.done, he]⟩
    clear he
    go_enter Tryz.func92, Tryz.ntmps92
    go_wp2_with fail
    go_quiet (fail)
    go_wp2
    go_ret
    exact ⟨by rw [hf.o]; rfl, _, rfl⟩
end Go.Proofs.YtdjamijbhaplgaaGreat
