/- The law's played: file systems on which acts were done. -/
import Derived.Test.YtlhhcoijkjcneaaSimAct
import Derived.Test.YtlhhcoijkjcneaaGe
import Derived.Test.YtlhhcoijkjcneaaSimW
import Derived.Test.YtlhhcoijkjcneaaRfT
import Derived.Test.YtlhhcoijkjcneaaSimEs
import Derived.Test.YtlhhcoijkjcneaaSimLo
import Derived.Test.YtlhhcoijkjcneaaSimZ
namespace Go.Proofs.Ytlhhcoijkjcneaa
open Go.RowKit Go.Maps Go.Lib

def FSt.actP (s : FSt) (y : ActM) : FSt := if y.kind = 14 then s else s.act y
def playedL (cap : Int) (l : List ActM) : FSt := l.foldl FSt.actP (FSt.fresh cap)
theorem playedL_take (cap : Int) (l : List ActM) (k : Nat) (hk : k < l.length) : playedL cap (l.take (k + 1)) = (playedL cap (l.take k)).actP l[k] := by
  unfold playedL
  rw [List.take_succ_eq_append_getElem hk, List.foldl_append]
  rfl
set_option maxHeartbeats 8000000 in
set_option maxRecDepth 100000 in
theorem played_any (w : World) (cap : Int) (hc0 : 0 ≤ cap) (hc1 : cap ≤ 67108864) (A : Option Addr) (c : Nat) (l : List ActM) (hA : ARd w A l) (hG : ∀ y ∈ l, y.Good w) (hl : l.length ≤ 60) (hw : ∀ y ∈ l, y.weight ≤ 20000) :
    Calls Try.prog 6 #[.int .i64 cap, .slice A l.length c] w fun e w' => ∃ b rb, e = .returned (.tuple #[.pointer (some ⟨b, 0, none⟩), .pointer (some ⟨rb, 0, none⟩)]) ∧ BothAt w noX b rb (playedL cap l) w' ∧ Inv (2 * l.length) (playedL cap l) := by
  have HA := Sd.mk hA
  have HG := Sd.mk hG
  have HW := Sd.mk hw
  clear hA hG hw
  go_enter Try.func6, Try.ntmps6
  go_upto_region 5 with (first | (go_at_call 9; refine (new_any _ cap hc0 hc1).mono ?_; rintro e w2 ⟨m, rfl, hi, ho, hk⟩; have HN := Sd.mk (And.intro hi (And.intro ho hk)); clear hi ho hk) | (go_at_call 21; refine (rnew_any _ cap hc0 hc1).mono ?_; rintro e w3 ⟨rm, rfl, hi, ho, hk⟩; have HR := Sd.mk (And.intro hi (And.intro ho hk)); clear hi ho hk) | (go_at_call 10; refine (num_law2 _ _).mono ?_; rintro e w' ⟨rfl, rfl⟩))
  have H0 : Sd (BothAt w noX m.b rm.b (FSt.fresh cap) w3) := ⟨HalfAt.mk' (Keeps.refl NoB w) HN.o.1 HN.o.2.1 HN.o.2.2 HR.o.1 HR.o.2.1 HR.o.2.2⟩
  have I0 : Sd (Inv 0 (FSt.fresh cap)) := ⟨Inv.fresh (by omega) (by omega)⟩
  generalize m.b = b at *
  generalize rm.b = rb at *
  clear HN HR
  go_wp2_with fail
  go_loopg [10] l.length (fun gk i wr => ∃ (k : Nat) (s : FSt), gk + k = l.length ∧ i = .int .i64 k ∧ Sd (BothAt w noX b rb s wr) ∧ Sd (Inv (2 * k) s) ∧ Sd (s = playedL cap (l.take k)))
  case atStart => exact ⟨0, _, by omega, rfl, H0, I0, ⟨rfl⟩⟩
  case round =>
    obtain ⟨k, s, hk, rfl, H, I, HS⟩ := hrel
    by_cases hlt : k < l.length
    case neg =>
      have hq1 : ¬ (k : Int) < (l.length : Int) := by omega
      have hkl : k = l.length := by omega
      subst hkl
      rw [List.take_of_length_le (Nat.le_refl _)] at HS
      go_wp2_with fail
      go_ret2
      exact ⟨b, rb, rfl, by rw [← HS.o]; exact H.o, by rw [← HS.o]; exact I.o⟩
    have hq1 : (k : Int) < (l.length : Int) := by omega
    have hq0 : (0 : Int) ≤ (k : Int) := by omega
    obtain ⟨g, o, e, c0, c1, c2, c3, c4, c5, c6, c7, c8⟩ := (HA.o.kept (HalfAt.keeps H.o)).at_ k hlt
    subst e
    have GY := Sd.mk (HG.o _ (List.getElem_mem hlt))
    have WY := Sd.mk (HW.o _ (List.getElem_mem hlt))
    have HT := Sd.mk (playedL_take cap l k hlt)
    generalize l[k] = y at *
    by_cases h14 : y.kind = 14
    · have hq : (y.kind == 14) = true := by simp [h14]
      have HX : Sd (s.actP y = s) := ⟨by unfold FSt.actP; rw [if_pos h14]⟩
      clear h14
      go_wp2_with fail
      go_roundg (gk - 1)
      case measure => omega
      case rel => exact ⟨k + 1, s, by omega, by go_num, H, ⟨I.o.mono (by omega)⟩, ⟨by rw [HT.o, ← HS.o]; exact HX.o.symm⟩⟩
    · have hq : (y.kind == 14) = false := by simp [h14]
      have HX : Sd (s.actP y = s.act y) := ⟨by unfold FSt.actP; rw [if_neg h14]⟩
      have h1 := WY.o
      unfold ActM.weight at h1
      have HC : Sd (∀ wx, wx = wr → Calls Try.prog 22 #[.pointer (some ⟨b, 0, none⟩), .pointer (some ⟨rb, 0, none⟩), .agg #[.int .i64 y.kind, .string y.a, .string y.b, .int .i64 y.file, .int .i64 y.at_, .int .i64 y.n, .slice y.Ad y.data.length y.cd, .int .i64 y.dir, .slice y.At y.L.length y.ct]] wx fun e w' => e = .returned (.tuple #[.pointer (some ⟨b, 0, none⟩), .bool true]) ∧ BothAt w noX b rb (s.act y) w') :=
        ⟨fun wx e => by rw [e]; exact act_any w wr noX b rb (2 * k) s H.o I.o (by omega) y GY.o (by omega) (by omega) h14⟩
      have HI : Sd (Inv (2 * (k + 1)) (s.act y)) := ⟨(I.o.act y (by omega) GY.o.kn).mono (by omega)⟩
      clear h14 h1
      go_wp2_with (go_at_call 22; refine (HC.o _ rfl).mono ?_; rintro e w5 ⟨rfl, h⟩; have H5 := Sd.mk h; clear h)
      go_roundg (gk - 1)
      case measure => omega
      case rel => exact ⟨k + 1, s.act y, by omega, by go_num, H5, HI, ⟨by rw [HT.o, ← HS.o]; exact HX.o.symm⟩⟩
set_option maxHeartbeats 1000000 in
theorem played_bad (w : World) (cap : Int) (h : cap < 0 ∨ 67108864 < cap) (v : Value) :
    Calls Try.prog 6 #[.int .i64 cap, v] w fun e w' => e = .returned (.tuple #[.pointer none, .pointer none]) ∧ Keeps NoB w w' := by
  go_enter Try.func6, Try.ntmps6
  go_wp2_with (first | (go_at_call 9; refine (new_bad _ cap h).mono ?_; rintro e w' ⟨rfl, rfl⟩) | (go_at_call 21; refine (rnew_bad _ cap h).mono ?_; rintro e w3 ⟨rfl, hk⟩; have HK := Sd.mk hk; clear hk) | (go_at_call 10; refine (num_law2 _ _).mono ?_; rintro e w' ⟨rfl, rfl⟩))
  go_ret2
  exact ⟨rfl, HK.o⟩
end Go.Proofs.Ytlhhcoijkjcneaa
namespace Go.Proofs.Ytlhhcoijkjcneaa
open Go.RowKit Go.Maps Go.Lib

set_option maxHeartbeats 8000000 in
set_option maxRecDepth 100000 in
theorem same_walk (W : World) (cap : Int) (A : Option Addr) (c : Nat) (l : List ActM) (hA : ARd W A l) (hG : ∀ y ∈ l, y.Good W) (hl : l.length ≤ 9223372036854775807) (B : Option Addr) (d : Nat) (r : List ActM) (hB : ARd W B r) (hH : ∀ y ∈ r, y.Good W) (hr : r.length ≤ 9223372036854775807) :
    Calls Try.prog 3 #[.int .i64 cap, .slice A l.length c, .slice B r.length d] W fun e W' => e = .returned (.bool true) ∧ Keeps NoB W W' := by
  have HA := Sd.mk hA
  have HG := Sd.mk hG
  have HB := Sd.mk hB
  have HH := Sd.mk hH
  clear hA hG hB hH
  go_enter Try.func3, Try.ntmps3
  cases hlong : longL l with
  | true =>
    have HLG := Sd.mk hlong
    clear hlong
    go_wp2_with (first | (go_at_call 4; refine (long_any W A c l HA.o HG.o hl).mono ?_; rw [HLG.o]; rintro e w1 ⟨rfl, hk⟩; have HK := Sd.mk hk; clear hk) | (go_at_call 5; refine (flive_any _).mono ?_; rintro e w2 ⟨rfl, hk2⟩; have HK2 := Sd.mk hk2; clear hk2))
    go_ret
    exact ⟨rfl, HK.o.then HK2.o⟩
  | false =>
  have HLG := Sd.mk hlong
  have HL60 := Sd.mk (longL_no hlong)
  clear hlong
  have C1 := Sd.mk (long_any W A c l HA.o HG.o hl)
  rw [HLG.o] at C1
  have C2 := Sd.mk (fun wx (hk : Keeps NoB W wx) => long_any wx B d r (HB.o.kept hk) (fun y hy => (HH.o y hy).kept hk) hr)
  cases hlong2 : longL r with
  | true =>
    rw [hlong2] at C2
    clear hlong2
    go_wp2_with (first | (go_at_call 4; with_reducible (refine C1.o.mono ?_); rintro e w1 ⟨rfl, hk⟩; have HK1 := Sd.mk hk; clear hk) | (go_at_call 4; with_reducible (refine (C2.o _ HK1.o).mono ?_); rintro e w2 ⟨rfl, hk⟩; have HK2 := Sd.mk hk; clear hk) | (go_at_call 5; refine (flive_any _).mono ?_; rintro e w3 ⟨rfl, hk2⟩; have HK3 := Sd.mk hk2; clear hk2))
    go_ret
    exact ⟨rfl, (HK1.o.then HK2.o).then HK3.o⟩
  | false =>
  rw [hlong2] at C2
  have HR60 := Sd.mk (longL_no hlong2)
  clear hlong2
  by_cases hcap : cap < 0 ∨ 67108864 < cap
  · have CB := Sd.mk (fun wx v => played_bad wx cap hcap v)
    have HC : Sd (cap < 0 ∨ 67108864 < cap) := ⟨hcap⟩
    clear hcap
    go_upto_region 6 with (first | (go_at_call 4; with_reducible (refine C1.o.mono ?_); rintro e w1 ⟨rfl, hk⟩; have HK1 := Sd.mk hk; clear hk C1) | (go_at_call 4; with_reducible (refine (C2.o _ HK1.o).mono ?_); rintro e w2 ⟨rfl, hk⟩; have HK2 := Sd.mk (HK1.o.then hk); clear hk C2) | (go_at_call 6; refine (CB.o _ _).mono ?_; rintro e w3 ⟨rfl, hk⟩; have HK2 := Sd.mk (HK2.o.then hk); clear hk))
    rcases HC.o with hc | hc
    · go_wp2_with (go_at_call 5; refine (flive_any _).mono ?_; rintro e w5 ⟨rfl, hk2⟩; have HK5 := Sd.mk hk2; clear hk2)
      go_ret
      exact ⟨rfl, HK2.o.then HK5.o⟩
    · have hc2 : ¬ cap < 0 := by omega
      go_wp2_with (go_at_call 5; refine (flive_any _).mono ?_; rintro e w5 ⟨rfl, hk2⟩; have HK5 := Sd.mk hk2; clear hk2)
      go_ret
      exact ⟨rfl, HK2.o.then HK5.o⟩
  have hc0 : 0 ≤ cap := by omega
  have hc1 : cap ≤ 67108864 := by omega
  clear hcap
  have P1 := Sd.mk (fun wx (hk : Keeps NoB W wx) => played_any wx cap hc0 hc1 A c l (HA.o.kept hk) (fun y hy => (HG.o y hy).kept hk) HL60.o.1 HL60.o.2)
  have P2 := Sd.mk (fun wx (hk : Keeps NoB W wx) => played_any wx cap hc0 hc1 B d r (HB.o.kept hk) (fun y hy => (HH.o y hy).kept hk) HR60.o.1 HR60.o.2)
  have N1 := Sd.mk HL60.o.1
  have N2 := Sd.mk HR60.o.1
  clear HA HB HG HH HLG HL60 HR60
  go_upto_region 3 with (first | (go_at_call 4; with_reducible (refine C1.o.mono ?_); rintro e w1 ⟨rfl, hk⟩; have HK1 := Sd.mk hk; clear hk C1) | (go_at_call 4; with_reducible (refine (C2.o _ HK1.o).mono ?_); rintro e w2 ⟨rfl, hk⟩; have HK2 := Sd.mk (HK1.o.then hk); clear hk C2))
  go_upto_region 4 with (go_at_call 6; refine (P1.o _ HK2.o).mono ?_; rintro e w3 ⟨b1, rb1, rfl, h, hi⟩; have H1 := Sd.mk h; have I1 := Sd.mk hi; clear h hi)
  have HK3 : Sd (Keeps NoB W w3) := ⟨HK2.o.then (HalfAt.keeps H1.o)⟩
  go_upto_region 5 with (go_at_call 6; refine (P2.o _ HK3.o).mono ?_; rintro e w4 ⟨b2, rb2, rfl, h, hi⟩; have H2 := Sd.mk h; have I2 := Sd.mk hi; clear h hi)
  have H3 := Sd.mk (HalfAt.kept H1.o (HalfAt.keeps H2.o))
  have HK4 : Sd (Keeps NoB W w4) := ⟨HK3.o.then (HalfAt.keeps H2.o)⟩
  clear P1 P2 H1
  generalize playedL cap l = s1 at *
  generalize playedL cap r = s2 at *
  obtain ⟨m1, rfl, hm1⟩ := HalfAt.fs H3.o
  obtain ⟨m2, rfl, hm2⟩ := HalfAt.fs H2.o
  obtain ⟨q1, rfl, hq1⟩ := HalfAt.rs H3.o
  obtain ⟨q2, rfl, hq2⟩ := HalfAt.rs H2.o
  have M1 := Sd.mk hm1
  have M2 := Sd.mk hm2
  have Q1 := Sd.mk hq1
  have Q2 := Sd.mk hq2
  clear hm1 hm2 hq1 hq2 H2 H3
  have L1 : Sd (s1.F.length ≤ 4611686018427387904) := ⟨by have := I1.o.lim.files; have := N1.o; omega⟩
  have L2 : Sd (s2.F.length ≤ 4611686018427387904) := ⟨by have := I2.o.lim.files; have := N2.o; omega⟩
  have J1 : Sd (Inv 200 s1) := ⟨I1.o.mono (by have := N1.o; omega)⟩
  have J2 : Sd (Inv 200 s2) := ⟨I2.o.mono (by have := N2.o; omega)⟩
  have S12 := Sd.mk (fun wx (hk : Keeps NoB w4 wx) => same_any wx m1 m2 s1 s2 (M1.o.kept hk) (M2.o.kept hk) I1.o.ok I2.o.ok L1.o L2.o)
  have S21 := Sd.mk (fun wx (hk : Keeps NoB w4 wx) => same_any wx m2 m1 s2 s1 (M2.o.kept hk) (M1.o.kept hk) I2.o.ok I1.o.ok L2.o L1.o)
  have S11 := Sd.mk (fun wx (hk : Keeps NoB w4 wx) => same_any wx m1 m1 s1 s1 (M1.o.kept hk) (M1.o.kept hk) I1.o.ok I1.o.ok L1.o L1.o)
  have R12 := Sd.mk (fun wx (hk : Keeps NoB w4 wx) => rsame_fs wx q1 q2 s1 s2 200 (Q1.o.kept hk) (Q2.o.kept hk) J1.o J2.o (by omega))
  rw [FSt.same_symm s2 s1 I2.o.ok I1.o.ok] at S21
  rw [FSt.same_refl s1 I1.o.ok] at S11
  generalize s1.same s2 = sm at *
  clear J1 J2 L1 L2 M1 M2 Q1 Q2 I1 I2 N1 N2
  have K0 : Sd (Keeps NoB w4 w4) := ⟨Keeps.refl NoB w4⟩
  cases sm <;> (
    go_wp2_with (first | (go_at_call 7; with_reducible (refine (S12.o _ K0.o).mono ?_); rintro e w5 ⟨rfl, hk⟩; have K0 := Sd.mk (K0.o.then hk); clear hk) | (go_at_call 7; with_reducible (refine (S21.o _ K0.o).mono ?_); rintro e w6 ⟨rfl, hk⟩; have K0 := Sd.mk (K0.o.then hk); clear hk) | (go_at_call 7; with_reducible (refine (S11.o _ K0.o).mono ?_); rintro e w7 ⟨rfl, hk⟩; have K0 := Sd.mk (K0.o.then hk); clear hk) | (go_at_call 8; with_reducible (refine (R12.o _ K0.o).mono ?_); rintro e w8 ⟨rfl, hk⟩; have K0 := Sd.mk (K0.o.then hk); clear hk) | (go_at_call 5; refine (flive_any _).mono ?_; rintro e w9 ⟨rfl, hk⟩; have K0 := Sd.mk (K0.o.then hk); clear hk))
    go_ret
    exact ⟨rfl, HK4.o.then K0.o⟩)
end Go.Proofs.Ytlhhcoijkjcneaa
