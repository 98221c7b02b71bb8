/- symtab, plain: a table that stands in a file. No Go here. -/
import Derived.Deep.RegionLaw
import Derived.Deep.DeepCutAuto
import Derived.Test.YtdjamijbhaplgaaGreatGkag
import Derived.Test.YtdjamijbhaplgaaGreatGkaw
import Derived.Test.YtdjamijbhaplgaaGreatGkax
import Derived.Test.YtdjamijbhaplgaaGreatGkaf
import Derived.Test.YtdjamijbhaplgaaGreatGkaq
namespace Go.Proofs.YtdjamijbhaplgaaGreat
open Go.RowKit

def FSt.createT (s : FSt) (a : List UInt8) : Int × FSt × Int :=
  if (s.create a).2.1 ≠ 0 then ((s.create a).2.1, (s.create a).2.2, 0)
  else if (s.create a).2.2.syncDir.1 ≠ 0 then ((s.create a).2.2.syncDir.1, (s.create a).2.2.syncDir.2, 0)
  else (0, (s.create a).2.2.syncDir.2, (s.create a).1)
def FSt.cutT (s : FSt) (n k size : Int) : Int × FSt :=
  if k < size then (if (s.cutAt n k).1 ≠ 0 then s.cutAt n k else (s.cutAt n k).2.sync n) else (0, s)
/-- What opening a table does once its file is there. -/
def FSt.loadT (s : FSt) (n : Int) : Int × FSt × Int × List (List UInt8) :=
  if (s.size n).2 ≠ 0 then ((s.size n).2, s, 0, [])
  else if (s.read n 0 (s.size n).1).2 ≠ 0 then ((s.read n 0 (s.size n).1).2, s, 0, [])
  else match loadL (s.read n 0 (s.size n).1).1 with
    | none => (51, s, 0, [])
    | some l => ((s.cutT n ((framesL (s.read n 0 (s.size n).1).1).2.1 : Nat) (s.size n).1).1, (s.cutT n ((framesL (s.read n 0 (s.size n).1).1).2.1 : Nat) (s.size n).1).2, n, l)
def FSt.openT (s : FSt) (a : List UInt8) : Int × FSt × Int × List (List UInt8) :=
  if (s.opened a).2 = 7 then ((s.createT a).1, (s.createT a).2.1, (s.createT a).2.2, [[]])
  else if (s.opened a).2 ≠ 0 then ((s.opened a).2, s, 0, [])
  else s.loadT (s.opened a).1
/-- What interning answers: an error, or none. -/
def internE (ss l : List (List UInt8)) : Int := if ¬ (∀ s ∈ ss, mayL s = true) then 50 else if 65536 < l.length + (addedL ss l).length then 6 else 0
def FSt.addT (s : FSt) (n : Int) (ss l : List (List UInt8)) : Int × FSt × List (List UInt8) :=
  if internE ss l ≠ 0 then (internE ss l, s, l)
  else if ((addedL ss l).flatMap frameL).length = 0 then (0, s, internL ss l)
  else if (s.append n ((addedL ss l).flatMap frameL)).1 ≠ 0 then ((s.append n ((addedL ss l).flatMap frameL)).1, (s.append n ((addedL ss l).flatMap frameL)).2, l)
  else (0, (s.append n ((addedL ss l).flatMap frameL)).2, internL ss l)
/-- A table as it may be. -/
structure GoodT (l : List (List UInt8)) : Prop where
  nodup : l.Nodup
  head : ∃ r, l = [] :: r
  len : l.length ≤ 65536
theorem GoodT.one : GoodT [[]] := ⟨by simp, ⟨[], rfl⟩, by simp⟩
theorem loadGo_good : ∀ (bs acc l : List (List UInt8)), loadGo bs acc = some l → GoodT acc → GoodT l
  | [], acc, l, h, g => by
    cases h
    exact g
  | b :: bs, acc, l, h, g => by
    unfold loadGo at h
    split at h
    · rename_i hc
      refine loadGo_good bs _ l h ⟨?_, ?_, ?_⟩
      · rw [List.nodup_append]
        exact ⟨g.nodup, by simp, fun a ha x hx => by simp at hx; subst hx; exact fun e => hc.2.2.1 (e ▸ ha)⟩
      · obtain ⟨r, hr⟩ := g.head
        exact ⟨r ++ [(symOf b).1], by rw [hr]; rfl⟩
      · have := hc.2.2.2
        rw [List.length_append]
        simp
        omega
    · cases h
theorem loadL_good {p : List UInt8} {l : List (List UInt8)} (h : loadL p = some l) : GoodT l := loadGo_good _ _ _ h GoodT.one
theorem internL_good {ss l : List (List UInt8)} (g : GoodT l) (h : l.length + (addedL ss l).length ≤ 65536) : GoodT (internL ss l) := by
  refine ⟨internL_nodup ss l g.nodup, ?_, ?_⟩
  · obtain ⟨r, hr⟩ := g.head
    exact ⟨r ++ addedL ss l, by rw [internL_eq, hr]; rfl⟩
  · rw [internL_eq, List.length_append]
    exact h
theorem internE_zero {ss l : List (List UInt8)} (h : internE ss l = 0) : (∀ s ∈ ss, mayL s = true) ∧ l.length + (addedL ss l).length ≤ 65536 := by
  unfold internE at h
  by_cases h1 : ∀ s ∈ ss, mayL s = true
  · rw [if_neg (fun e => e h1)] at h
    by_cases h2 : 65536 < l.length + (addedL ss l).length
    · rw [if_pos h2] at h
      cases h
    · exact ⟨h1, by omega⟩
  · rw [if_pos h1] at h
    cases h
theorem addT_good {s : FSt} {n : Int} {ss l : List (List UInt8)} (g : GoodT l) : GoodT (s.addT n ss l).2.2 := by
  unfold FSt.addT
  split
  · exact g
  · rename_i h
    have h' : internE ss l = 0 := Classical.byContradiction h
    have := internL_good g (internE_zero h').2
    split
    · exact this
    · split
      · exact g
      · exact this
theorem openT_good {s : FSt} {a : List UInt8} (h : (s.openT a).1 = 0) : GoodT (s.openT a).2.2.2 := by
  unfold FSt.openT at h ⊢
  split
  · exact GoodT.one
  · split
    · rename_i h7 h0
      rw [if_neg h7, if_pos h0] at h
      exact absurd h h0
    · rename_i h7 h0
      rw [if_neg h7, if_neg h0] at h
      unfold FSt.loadT at h ⊢
      split
      · rename_i h1
        rw [if_pos h1] at h
        exact absurd h h1
      · rename_i h1
        rw [if_neg h1] at h
        split
        · rename_i h2
          rw [if_pos h2] at h
          exact absurd h h2
        · rename_i h2
          rw [if_neg h2] at h
          cases hl : loadL (s.read (s.opened a).1 0 (s.size (s.opened a).1).1).1 with
          | none =>
            rw [hl] at h
            cases h
          | some l =>
            exact loadL_good hl
section
variable {N : Nat} {s : FSt}
theorem Inv.createT (h : Inv N s) (a : List UInt8) : Inv (N + 3) (s.createT a).2.1 := by
  unfold FSt.createT
  split
  · exact (h.create a).mono (by omega)
  · split
    · exact ((h.create a).syncDir).mono (by omega)
    · exact ((h.create a).syncDir).mono (by omega)
theorem Inv.cutT (h : Inv N s) (n k size : Int) : Inv (N + 3) (s.cutT n k size).2 := by
  unfold FSt.cutT
  split
  · split
    · exact (h.cutAt n k).mono (by omega)
    · exact ((h.cutAt n k).sync n).mono (by omega)
  · exact h.mono (by omega)
theorem Inv.openT (h : Inv N s) (a : List UInt8) : Inv (N + 3) (s.openT a).2.1 := by
  unfold FSt.openT
  split
  · exact h.createT a
  · split
    · exact h.mono (by omega)
    · unfold FSt.loadT
      split
      · exact h.mono (by omega)
      · split
        · exact h.mono (by omega)
        · split
          · exact h.mono (by omega)
          · exact h.cutT _ _ _
theorem Inv.addT (h : Inv N s) (n : Int) (ss l : List (List UInt8)) (hb : ((addedL ss l).flatMap frameL).length ≤ 70368744177664) : Inv (N + 3) (s.addT n ss l).2.1 := by
  unfold FSt.addT
  split
  · exact h.mono (by omega)
  · split
    · exact h.mono (by omega)
    · split
      · exact (h.append n _ hb).mono (by omega)
      · exact (h.append n _ hb).mono (by omega)
end
end Go.Proofs.YtdjamijbhaplgaaGreat
namespace Go.Proofs.YtdjamijbhaplgaaGreat
open Go.RowKit

theorem four32_vals (s : Nat) (hs : s < 4294967296) : [Value.int .u8 ((s : Int) / 16777216), .int .u8 ((s : Int) / 65536 % 256), .int .u8 ((s : Int) / 256 % 256), .int .u8 ((s : Int) % 256)] = bvs (four s) := by
  have e1 := u8v_of (s / 16777216) (s / 16777216) (by omega)
  have e2 := u8v_of (s / 65536) (s / 65536 % 256) rfl
  have e3 := u8v_of (s / 256) (s / 256 % 256) rfl
  have e4 := u8v_of s (s % 256) rfl
  show _ = [u8v _, u8v _, u8v _, u8v _]
  rw [← e1, ← e2, ← e3, ← e4]
  simp
theorem own4 (w : World) (xs : List UInt8) (vs : List Value) (h : vs = bvs xs) (hl : xs.length = 4) : OwnV (w.alloc (.cells vs.toArray 5)) 5 (.slice (some ⟨w.heap.size, 0, none⟩) xs.length 4) (bvs xs) := by
  subst h
  have := own_lit w 5 (bvs xs) (by rw [bvs_length]; omega)
  rw [bvs_length, hl] at this
  rw [hl]
  exact this
theorem four_len (n : Nat) : (four n).length = 4 := rfl

set_option maxHeartbeats 1000000 in
theorem rfour_any (w : World) (n : Nat) (hn : n < 4294967296) : Calls Tryz.prog 120 #[.int .u32 (n : Int)] w fun e w' => ∃ A c, e = .returned (.slice A (four n).length c) ∧ OwnV w' 5 (.slice A (four n).length c) (bvs (four n)) ∧ Fresh w (.slice A (four n).length c) ∧ Keeps NoB w w' := by
  have hv := Sd.mk (four32_vals n hn)
  go_enter Tryz.func120, Tryz.ntmps120
  go_wp2
  go_ret
  exact ⟨_, 4, rfl, own4 w (four n) _ hv.o rfl, fresh_lit w _ _, (Keeps.refl NoB w).alloc _⟩
set_option maxHeartbeats 1000000 in
theorem rturned_any (w : World) (n : Nat) (hn : n < 4294967296) : Calls Tryz.prog 118 #[.int .u32 (n : Int)] w fun e w' => ∃ A c, e = .returned (.slice A (turned n).length c) ∧ OwnV w' 5 (.slice A (turned n).length c) (bvs (turned n)) ∧ Fresh w (.slice A (turned n).length c) ∧ Keeps NoB w w' := by
  have hv := Sd.mk (turned_vals n hn)
  go_enter Tryz.func118, Tryz.ntmps118
  go_wp2
  go_ret
  exact ⟨_, 4, rfl, own4 w (turned n) _ hv.o rfl, fresh_lit w _ _, (Keeps.refl NoB w).alloc _⟩

set_option maxHeartbeats 4000000 in
set_option maxRecDepth 100000 in
theorem rseal_any (w : World) (A : Option Addr) (c : Nat) (l : List UInt8) (hb : Bts w (.slice A l.length c) l) :
    Calls Tryz.prog 111 #[.slice A l.length c] w fun e w' => (1048576 < l.length ∧ e = .returned (.tuple #[.slice none 0 0, .int .i64 1]) ∧ w = w') ∨
      (l.length ≤ 1048576 ∧ ∃ A' c', e = .returned (.tuple #[.slice A' (sealL l).length c', .int .i64 0]) ∧ OwnV w' 5 (.slice A' (sealL l).length c') (bvs (sealL l)) ∧ Fresh w (.slice A' (sealL l).length c') ∧ Keeps NoB w w') := by
  have HB := Sd.mk hb
  have hm : l.length ≤ 9223372036854775807 := by have := hb.rd; unfold maxLen at this; omega
  clear hb
  by_cases hbig : 1048576 < l.length
  · have hq : (1048576 : Int) < (l.length : Int) := by omega
    have hfin : Sd (1048576 < l.length) := ⟨hbig⟩
    clear hbig
    go_enter Tryz.func111, Tryz.ntmps111
    go_wp2
    go_ret2
    exact .inl ⟨hfin.o, rfl, rfl⟩
  · have hq : ¬ (1048576 : Int) < (l.length : Int) := by omega
    have hle : l.length ≤ 1048576 := by omega
    clear hbig
    go_enter Tryz.func111, Tryz.ntmps111
    go_wp2_with fail
    refine (rfour_any _ l.length (by omega)).mono ?_
    rintro e w1 ⟨A1, c1, rfl, hO1, hF1, hK1⟩
    have HO1 := Sd.mk hO1
    have HF1 := Sd.mk hF1
    have HK1 := Sd.mk hK1
    clear hO1 hF1 hK1
    go_wp2_with (at_builtin; go_must (refine app_any rfl _ _ 49 5 (.int .u8 0) 1 rfl Tryz.underlying49 infoU8' rfl (.slice A1 (four l.length).length c1) (bvs (four l.length)) rfl HO1.o A l.length c (bvs l) rfl (bvs_length l) (rd_vrd (HB.o.keeps HK1.o (fun _ _ _ _ _ f => f)).rd.2.2.2.2.2) (bvs_one l) (by rw [bvs_length, four_len]; omega) (by rw [bvs_length, four_len]; omega) ?_))
    intro A2 c2 w2 HO2 HK2 HG2
    have e1 : (bvs (four l.length)).length + l.length = (four l.length ++ l).length := by rw [bvs_length, List.length_append]
    rw [e1] at HO2 HG2 ⊢
    rw [← bvs_append] at HO2
    obtain ⟨ys, hy⟩ : ∃ ys, ys = four l.length ++ l := ⟨_, rfl⟩
    rw [← hy] at HO2 HG2 ⊢
    have hyl : ys.length ≤ 1048580 := by rw [hy, List.length_append, four_len]; omega
    have HY := Sd.mk hy
    have HO2' := Sd.mk HO2
    have HK2' : Sd (Keeps NoB w w2) := ⟨HK1.o.fresh HF1.o HK2⟩
    have HF2' : Sd (Fresh w (.slice A2 ys.length c2)) := ⟨HF1.o.grew HK1.o.size HG2⟩
    clear HO2 HK2 HG2 e1 hy HO1 HF1 HK1
    go_wp2_with (go_at_call 119; go_must (refine (rcrc_any _ A2 c2 ys HO2'.o.bts).mono ?_); rintro e w' ⟨rfl, rfl⟩)
    have hcl := crc_lt ys
    have hyy : Sd (sealL l = ys ++ turned (crc ys)) := ⟨by unfold sealL; rw [← HY.o]⟩
    generalize crc ys = C at *
    go_wp2_with fail
    refine (rturned_any _ C hcl).mono ?_
    rintro e w3 ⟨A3, c3, rfl, hO3, hF3, hK3⟩
    have HO3 := Sd.mk hO3
    have HK3 := Sd.mk hK3
    clear hO3 hF3 hK3
    go_wp2_with (at_builtin; go_must (refine app_any rfl _ _ 49 5 (.int .u8 0) 1 rfl Tryz.underlying49 infoU8' rfl (.slice A2 ys.length c2) (bvs ys) rfl (HO2'.o.keeps HK3.o (fun _ _ f => f)) A3 (turned C).length c3 (bvs (turned C)) rfl (bvs_length _) (rd_vrd HO3.o.bts.rd.2.2.2.2.2) (bvs_one _) (by rw [bvs_length, turned_len]; omega) (by rw [bvs_length, turned_len]; omega) ?_))
    intro A4 c4 w4 HO4 HK4 HG4
    have HO4' := Sd.mk HO4
    have HK4' := Sd.mk HK4
    have HG4' := Sd.mk HG4
    clear HO4 HK4 HG4
    go_wp2
    go_ret2
    have e1 : (bvs ys).length + (turned C).length = (ys ++ turned C).length := by rw [bvs_length, List.length_append]
    rw [e1] at HO4' HG4'
    rw [← bvs_append] at HO4'
    rw [hyy.o]
    exact .inr ⟨hle, A4, c4, by rw [← e1]; rfl, HO4'.o, HF2'.o.grew (HK2'.o.then HK3.o).size HG4'.o, (HK2'.o.then HK3.o).fresh HF2'.o HK4'.o⟩
end Go.Proofs.YtdjamijbhaplgaaGreat
namespace Go.Proofs.YtdjamijbhaplgaaGreat
open Go.RowKit

theorem sOf_toList (l : List UInt8) : (sOf l).toList = l := by rw [ByteArray.toList_eq]; rfl

set_option maxHeartbeats 4000000 in
set_option maxRecDepth 100000 in
theorem ropen_any (w : World) (A : Option Addr) (c : Nat) (p : List UInt8) (hb : Bts w (.slice A p.length c) p) (hl : p.length ≤ 140737488355328) :
    Calls Tryz.prog 108 #[.slice A p.length c] w fun e w' => ∃ A' c', e = .returned (.tuple #[.slice A' (openL p).1.length c', .int .i64 (openL p).2.1, .int .i64 (openL p).2.2]) ∧ OwnV w' 5 (.slice A' (openL p).1.length c') (bvs (openL p).1) ∧ Fresh w (.slice A' (openL p).1.length c') ∧ Keeps NoB w w' := by
  have HB := Sd.mk hb
  clear hb
  by_cases h4 : p.length < 4
  · have hq : (p.length : Int) < 4 := by omega
    have hf : Sd (openL p = ([], 0, 3)) := ⟨by unfold openL; rw [if_pos h4]⟩
    clear h4
    go_enter Tryz.func108, Tryz.ntmps108
    go_wp2
    go_ret3
    rw [hf.o]
    exact ⟨none, 0, rfl, (Own.nil _ 0).v, (fun k hk => by simp [Value.ownBlock] at hk), Keeps.refl _ _⟩
  · have hf : Sd (openL p = if 1048576 < be p then ([], 0, 1)
      else if p.length < be p + 8 then ([], 0, 3)
      else if (p.drop (4 + be p)).take 4 = turned (crc (p.take (4 + be p))) then ((p.drop 4).take (be p), be p + 8, 0)
      else ([], 0, 12)) := ⟨by unfold openL; rw [if_neg h4]⟩
    have hq : ¬ (p.length : Int) < 4 := by omega
    obtain ⟨b, o, rfl, g0⟩ := HB.o.rd.2.2.2.2.2 0 (by omega)
    have k0 : w.cell? ⟨b, o, none⟩ = some (.int .u8 (p[0].toNat : Int)) := g0
    have k1 : w.cell? ⟨b, o + 1, none⟩ = some (.int .u8 (p[1].toNat : Int)) := by obtain ⟨b', o', e, g⟩ := HB.o.rd.2.2.2.2.2 1 (by omega); cases e; exact g
    have k2 : w.cell? ⟨b, o + 2, none⟩ = some (.int .u8 (p[2].toNat : Int)) := by obtain ⟨b', o', e, g⟩ := HB.o.rd.2.2.2.2.2 2 (by omega); cases e; exact g
    have k3 : w.cell? ⟨b, o + 3, none⟩ = some (.int .u8 (p[3].toNat : Int)) := by obtain ⟨b', o', e, g⟩ := HB.o.rd.2.2.2.2.2 3 (by omega); cases e; exact g
    have hbe : Sd (be p = p[0].toNat * 16777216 + p[1].toNat * 65536 + p[2].toNat * 256 + p[3].toNat) := ⟨by
      unfold be; rw [getD_eq (by omega), getD_eq (by omega), getD_eq (by omega), getD_eq (by omega)]⟩
    have hi0 : 0 < p.length := by omega
    have hi1 : (1 : Int) < (p.length : Int) := by omega
    have hi2 : (2 : Int) < (p.length : Int) := by omega
    have hi3 : (3 : Int) < (p.length : Int) := by omega
    generalize p[0] = x0 at *
    generalize p[1] = x1 at *
    generalize p[2] = x2 at *
    generalize p[3] = x3 at *
    clear g0 h4
    have l0 : x0.toNat < 256 := x0.toNat_lt
    have l1 : x1.toNat < 256 := x1.toNat_lt
    have l2 : x2.toNat < 256 := x2.toNat_lt
    have l3 : x3.toNat < 256 := x3.toNat_lt
    go_enter Tryz.func108, Tryz.ntmps108
    have hor := or4_i64 _ _ _ _ l0 l1 l2 l3
    rw [← hbe.o] at hor
    have HOR := Sd.mk hor
    have hN32 : be p < 4294967296 := by rw [hbe.o]; omega
    clear hor
    go_wp2_with fail
    go_quiet (fail)
    rw [HOR.o]
    clear HOR hbe k0 k1 k2 k3 l0 l1 l2 l3 hi0 hi1 hi2 hi3
    generalize be p = N at *
    by_cases hN : 1048576 < N
    · have hq2 : (1048576 : Int) < (N : Int) := by omega
      rw [if_pos hN] at hf
      clear hN
      go_wp2
      go_ret3
      rw [hf.o]
      exact ⟨none, 0, rfl, (Own.nil _ 0).v, (fun k hk => by simp [Value.ownBlock] at hk), (Keeps.refl _ _).drewN _⟩
    · rw [if_neg hN] at hf
      have hq2 : ¬ (1048576 : Int) < (N : Int) := by omega
      have hN2 : N ≤ 1048576 := by omega
      by_cases hs : p.length < N + 8
      · have hq3 : (p.length : Int) < (N : Int) + 8 := by omega
        rw [if_pos hs] at hf
        clear hs hN
        go_wp2
        go_ret3
        rw [hf.o]
        exact ⟨none, 0, rfl, (Own.nil _ 0).v, (fun k hk => by simp [Value.ownBlock] at hk), (Keeps.refl _ _).drewN _⟩
      · have hq3 : ¬ (p.length : Int) < (N : Int) + 8 := by omega
        have hlen : N + 8 ≤ p.length := by omega
        rw [if_neg hs] at hf
        clear hs hN
        obtain ⟨i0, hi, hz0, hz1, hz2⟩ := info_parts infoU8
        have hcap := HB.o.rd.2.1
        have hsl : ∀ W : World, (Instr.slice 49 (.slice (some ⟨b, o, none⟩) p.length c) none (some (.int .i64 (4 + (N : Int)))) none).run Tryz.prog W = .ok (.slice (some ⟨b, o, none⟩) (4 + N) c) W := fun W =>
          slice_run_h 49 5 .i64 Tryz.underlying49 hi hz1 _ p.length c (4 + N) (fun _ a ha => by cases ha; rfl) (by omega) W _ (by omega)
        have hsl2 : ∀ W : World, (Instr.slice 49 (.slice (some ⟨b, o, none⟩) p.length c) (some (.int .i64 4)) (some (.int .i64 (4 + (N : Int)))) none).run Tryz.prog W = .ok (.slice (cutA (some ⟨b, o, none⟩) c 4) N (c - 4)) W := fun W => by
          have := slice_run 49 5 .i64 .i64 Tryz.underlying49 hi hz1 (some ⟨b, o, none⟩) p.length c 4 (4 + N) (by omega) (by omega) W 4 (4 + (N : Int)) rfl (by omega)
          rw [this, show 4 + N - 4 = N by omega]
        have hsl3 : ∀ W : World, (Instr.slice 49 (.slice (some ⟨b, o, none⟩) p.length c) (some (.int .i64 (4 + (N : Int)))) (some (.int .i64 (8 + (N : Int)))) none).run Tryz.prog W = .ok (.slice (cutA (some ⟨b, o, none⟩) c (4 + N)) 4 (c - (4 + N))) W := fun W => by
          have := slice_run 49 5 .i64 .i64 Tryz.underlying49 hi hz1 (some ⟨b, o, none⟩) p.length c (4 + N) (8 + N) (by omega) (by omega) W (4 + (N : Int)) (8 + (N : Int)) (by omega) (by omega)
          rw [this, show 8 + N - (4 + N) = 4 by omega]
        have hl4 : (p.take (4 + N)).length = 4 + N := by simp; omega
        have hl5 : ((p.drop (4 + N)).take 4).length = 4 := by simp; omega
        have hl6 : ((p.drop 4).take N).length = N := by simp; omega
        have HT := Sd.mk (HB.o.take (4 + N) (by omega))
        have hcut := HB.o.cut 4 (4 + N) (by omega) (by omega)
        rw [show 4 + N - 4 = N by omega] at hcut
        have HCut := Sd.mk hcut
        have hcut2 := HB.o.cut (4 + N) (8 + N) (by omega) (by omega)
        rw [show 8 + N - (4 + N) = 4 by omega] at hcut2
        have HC : Sd (∀ w', Keeps NoB w w' → (convert 49 9 (.slice (cutA (some ⟨b, o, none⟩) c (4 + N)) 4 (c - (4 + N)))).run Tryz.prog w' = .ok (.string (sOf ((p.drop (4 + N)).take 4))) w') := ⟨fun w' h => by
          have := conv_rd (P := Tryz.prog) w' 49 5 9 Tryz.underlying49 Tryz.underlying5 Tryz.underlying9 (cutA (some ⟨b, o, none⟩) c (4 + N)) _ (c - (4 + N)) (hcut2.keeps h (fun _ _ _ _ _ f => f)).rd.2.2.2.2.2
          rwa [hl5] at this⟩
        have hcl := crc_lt (p.take (4 + N))
        have HCR : Sd (∀ w', Keeps NoB w w' → Calls Tryz.prog 119 #[.slice (some ⟨b, o, none⟩) (4 + N) c] w' fun e w'' => e = .returned (.int .u32 (crc (p.take (4 + N)))) ∧ w' = w'') := ⟨fun w' h => by
          have := rcrc_any w' (some ⟨b, o, none⟩) c (p.take (4 + N)) (by rw [hl4]; exact HT.o.keeps h (fun _ _ _ _ _ f => f))
          rwa [hl4] at this⟩
        clear hi hz0 hz1 hz2 hcut hcut2 hl4
        generalize hXX : (p.drop (4 + N)).take 4 = X at *
        generalize crc (p.take (4 + N)) = C at *
        clear hXX
        obtain ⟨bb, hbb⟩ : ∃ bb, bb = ((sOf (turned C)).toList == (sOf X).toList) := ⟨_, rfl⟩
        have hcmp := hbb.symm
        have hs4 : IntKind.i64.wrap (4 + (N : Int)) = 4 + (N : Int) := IntWalk.i64_in _ (by omega)
        have hs8 : IntKind.i64.wrap (8 + (N : Int)) = 8 + (N : Int) := IntWalk.i64_in _ (by omega)
        have HBB := Sd.mk hbb
        clear hbb
        go_upto_region 8 with fail
        obtain ⟨w0, hw0⟩ : ∃ w0, w0 = w.drewN nq := ⟨_, rfl⟩
        rw [← hw0]
        have HK0 : Sd (Keeps NoB w w0) := ⟨by rw [hw0]; exact (Keeps.refl NoB w).drewN nq⟩
        clear hw0
        go_cut [52] (fun sx wx => sx = .bool (!bb) ∧ Sd (Keeps NoB w wx))
        case first =>
          have hq0 := HC.o w0.drew HK0.o.drew
          go_region_law
            (first
              | (go_simp; go_at_call 119
                 refine (HCR.o w0.drew HK0.o.drew).mono ?_
                 rintro e w' ⟨rfl, rfl⟩)
              | (go_simp; go_at_call 118
                 refine (rturned_any w0.drew C hcl).mono ?_
                 rintro e w3 ⟨A3, c3, rfl, hO3, hF3, hK3⟩
                 have hcv3 := conv_rd (P := Tryz.prog) w3 49 5 9 Tryz.underlying49 Tryz.underlying5 Tryz.underlying9 A3 (turned C) c3 hO3.bts.rd.2.2.2.2.2
                 have hq3 := HC.o w3 (HK0.o.drew.then hK3)
                 replace hK3 := Sd.mk (HK0.o.drew.then hK3)
                 clear hO3 hF3))
          all_goals (go_wp2_with fail; go_meet; exact ⟨rfl, hK3⟩)
        obtain ⟨rfl, HK1⟩ := hcut
        clear HK0 hcmp hsl hsl3 HC HCR HT hs4 hs8
        cases bb with
        | false =>
          have hno : ¬ X = turned C := fun e => by
            have := HBB.o
            rw [e] at this
            simp at this
          rw [if_neg hno] at hf
          clear hno
          go_wp2_with fail
          go_ret3
          rw [hf.o]
          exact ⟨none, 0, rfl, (Own.nil _ 0).v, (fun k hk => by simp [Value.ownBlock] at hk), HK1.o⟩
        | true =>
          have hyes : X = turned C := by
            have := HBB.o.symm
            rw [sOf_toList, sOf_toList] at this
            exact (eq_of_beq this).symm
          rw [if_pos hyes] at hf
          clear hyes
          have HL6 := Sd.mk hl6
          clear hl6 hl5
          generalize (p.drop 4).take N = Y at *
          go_wp2_with (at_builtin; go_must (refine app_lit0 rfl _ _ 49 5 (.int .u8 0) 1 rfl Tryz.underlying49 infoU8' rfl wc.heap.size rfl rfl (cutA (some ⟨b, o, none⟩) c 4) N (c - 4) (bvs Y) rfl (by rw [bvs_length]; exact HL6.o) (rd_vrd (HCut.o.keeps HK1.o (fun _ _ _ _ _ f => f)).rd.2.2.2.2.2) (bvs_one Y) (by omega) (by omega) ?_); intro A4 c4 w4 HO4 HK4 HF4; have HP4 := Sd.mk (And.intro HO4 (And.intro HK4 HF4)); clear HO4 HK4 HF4)
          go_ret3
          rw [hf.o]
          obtain ⟨HO4, HK4, HF4⟩ := HP4.o
          refine ⟨A4, c4, ?_, by rw [HL6.o]; exact HO4, by rw [HL6.o]; exact fun k hk => Nat.le_trans HK1.o.size (HF4 k hk), HK1.o.then HK4⟩
          rw [HL6.o]
          go_num
end Go.Proofs.YtdjamijbhaplgaaGreat
