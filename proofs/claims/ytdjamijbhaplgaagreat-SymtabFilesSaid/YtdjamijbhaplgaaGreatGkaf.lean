/- octet: Seal. -/
import Derived.Test.YtdjamijbhaplgaaGreatGkae
namespace Go.Proofs.YtdjamijbhaplgaaGreat
open Go.RowKit

theorem LRd.keeps {F : Nat → Prop} {w w' : World} {A : Option Addr} {ls : List (List UInt8)} (h : LRd w A ls) (k : Keeps F w w') (hF : ∀ i, i < w.heap.size → ¬ F i) : LRd w' A ls := by
  obtain ⟨vs, hl, hv, hb⟩ := h
  exact ⟨vs, hl, hv.below (k.below hF), fun i hi hi' => (hb i hi hi').below (k.below hF)⟩
theorem LRd.one {w : World} {A : Option Addr} {c : Nat} {xs : List UInt8} (h : Bts w (.slice A xs.length c) xs) (e : TypeId) :
    LRd (w.alloc (.cells #[.slice A xs.length c] e)) (some ⟨w.heap.size, 0, none⟩) [xs] :=
  ⟨[.slice A xs.length c], rfl, one_vrd, fun i hi hi' => by
    cases i with
    | zero => exact h.keeps ((Keeps.refl NoB w).alloc _) (fun _ _ _ _ _ f => f)
    | succ i => simp at hi⟩
theorem LRd.one_at {w : World} {A : Option Addr} {c g : Nat} {xs : List UInt8} (hg : g = w.heap.size) (h : Bts w (.slice A xs.length c) xs) (e : TypeId) :
    LRd (w.alloc (.cells #[.slice A xs.length c] e)) (some ⟨g, 0, none⟩) [xs] := by subst hg; exact LRd.one h e
theorem OwnV.bts {w : World} {v : Value} {xs : List UInt8} (h : OwnV w 5 v (bvs xs)) : Bts w v xs := h.own.bts

theorem u8v_of (n m : Nat) (h : m = n % 256) : Value.int .u8 (m : Int) = u8v (UInt8.ofNat n) := by
  subst h; simp [u8v]
theorem four_vals (s : Nat) (hs : s ≤ 1048576) : [Value.int .u8 ((s : Int) / 16777216), .int .u8 ((s : Int) / 65536), .int .u8 ((s : Int) / 256 % 256), .int .u8 ((s : Int) % 256)] = bvs (four s) := by
  have e1 := u8v_of (s / 16777216) (s / 16777216) (by omega)
  have e2 := u8v_of (s / 65536) (s / 65536) (by omega)
  have e3 := u8v_of (s / 256) (s / 256 % 256) rfl
  have e4 := u8v_of s (s % 256) rfl
  show _ = [u8v _, u8v _, u8v _, u8v _]
  rw [← e1, ← e2, ← e3, ← e4]
  simp
theorem turned_vals (s : Nat) (hs : s < 4294967296) : [Value.int .u8 ((s : Int) % 256), .int .u8 ((s : Int) / 256 % 256), .int .u8 ((s : Int) / 65536 % 256), .int .u8 ((s : Int) / 16777216)] = bvs (turned s) := by
  have e1 := u8v_of (s / 16777216) (s / 16777216) (by omega)
  have e2 := u8v_of (s / 65536) (s / 65536 % 256) rfl
  have e3 := u8v_of (s / 256) (s / 256 % 256) rfl
  have e4 := u8v_of s (s % 256) rfl
  show _ = [u8v _, u8v _, u8v _, u8v _]
  rw [← e1, ← e2, ← e3, ← e4]
  simp
theorem new_many {w : World} {cs : List Value} {e : TypeId} {g j : Nat} {x : Value} (hg : g = w.heap.size) (h : cs[j]? = some x) : (w.alloc (.cells cs.toArray e)).cell? ((⟨g, 0, none⟩ : Addr).add j) = some x := by
  subst hg
  rw [add_lit, blk_cell (heap_alloc_new w _)]
  simpa using h
theorem many1 {k : IntKind} {a b c d : Int} : ∀ u ∈ [Value.int k a, .int k b, .int k c, .int k d], u.oneCell' = true := by
  intro u hu
  simp at hu
  rcases hu with rfl | rfl | rfl | rfl <;> rfl

set_option maxHeartbeats 4000000 in
set_option maxRecDepth 100000 in
theorem seal_any (w : World) (A : Option Addr) (c : Nat) (ls : List (List UInt8)) (hr : LRd w A ls) (hl : ls.length ≤ 140737488355328) :
    Calls Tryz.prog 98 #[.slice A ls.length c] w fun e w' => (1048576 < ls.flatten.length ∧ e = .returned (.tuple #[.slice none 0 0, .int .i64 1]) ∧ w = w') ∨
      (ls.flatten.length ≤ 1048576 ∧ ∃ A' c', e = .returned (.tuple #[.slice A' (sealL ls.flatten).length c', .int .i64 0]) ∧ OwnV w' 5 (.slice A' (sealL ls.flatten).length c') (bvs (sealL ls.flatten)) ∧ Fresh w (.slice A' (sealL ls.flatten).length c') ∧ Keeps NoB w w') := by
  have HR := Sd.mk hr
  clear hr
  go_enter Tryz.func98, Tryz.ntmps98
  go_wp2_with fail
  go_loopg [4, 13] ls.length (fun gk v i wr => ∃ (k : Nat) (s : Nat), gk + k = ls.length ∧ i = .int .i64 k ∧ v = .int .i64 s ∧ s ≤ 1048576 ∧ Sd (s = (ls.take k).flatten.length) ∧ Sd (w = wr))
  case atStart => exact ⟨0, 0, rfl, rfl, rfl, by decide, ⟨rfl⟩, ⟨rfl⟩⟩
  case round =>
    obtain ⟨k, s, hk, rfl, rfl, hs, hcs, ⟨rfl⟩⟩ := hrel
    by_cases hlt : k < ls.length
    · have hq : (k : Int) < (ls.length : Int) := by omega
      obtain ⟨b1, o1, A1, c1, rfl, hc, hb⟩ := HR.o.at_ k hlt
      have htk : Sd ((ls.take (k + 1)).flatten = (ls.take k).flatten ++ ls[k]) := ⟨flatten_take ls k hlt⟩
      have hto : Sd ((ls.take k).flatten.length + ls[k].length ≤ ls.flatten.length) := ⟨by
        have e := congrArg List.length (flatten_take ls k hlt)
        have e2 : ls.flatten = (ls.take (k + 1)).flatten ++ (ls.drop (k + 1)).flatten := by rw [← List.flatten_append, List.take_append_drop]
        rw [e2, List.length_append, e, List.length_append]; omega⟩
      generalize ls[k] = l0 at *
      have hl0 : l0.length ≤ 9223372036854775807 := by have := hb.rd; unfold maxLen at this; omega
      clear hb
      by_cases hbig : 1048576 - s < l0.length
      · have hq2 : (1048576 : Int) - (s : Int) < (l0.length : Int) := by omega
        have hfin : Sd (1048576 < ls.flatten.length) := ⟨by have := hto.o; rw [← hcs.o] at this; omega⟩
        clear hbig
        go_wp2
        go_ret2
        exact .inl ⟨hfin.o, rfl, rfl⟩
      · have hq2 : ¬ (1048576 : Int) - (s : Int) < (l0.length : Int) := by omega
        have hb2 : s + l0.length ≤ 1048576 := by omega
        clear hbig
        go_wp2
        go_roundg (gk - 1)
        case measure => omega
        case rel => exact ⟨k + 1, s + l0.length, by omega, by go_num, by go_num, hb2, ⟨by rw [htk.o, List.length_append, hcs.o]⟩, ⟨rfl⟩⟩
    · have hq : ¬ (k : Int) < (ls.length : Int) := by omega
      have he : Sd (ls.take k = ls) := ⟨List.take_of_length_le (by omega)⟩
      have hn : Sd (s = ls.flatten.length) := ⟨by rw [hcs.o, he.o]⟩
      clear hcs
      have hfour : Sd ([Value.int .u8 ((s : Int) / 16777216), .int .u8 ((s : Int) / 65536), .int .u8 ((s : Int) / 256 % 256), .int .u8 ((s : Int) % 256)] = bvs (four s)) := ⟨four_vals s hs⟩
      go_wp2_with fail
      have HO0 : OwnV (w.alloc (.cells #[Value.int .u8 ((s : Int) / 16777216), .int .u8 ((s : Int) / 65536), .int .u8 ((s : Int) / 256 % 256), .int .u8 ((s : Int) % 256)] 5)) 5 (.slice (some ⟨w.heap.size, 0, none⟩) (four s).length 4) (bvs (four s)) := by
        have := own_lit w 5 (bvs (four s)) (by rw [bvs_length]; show 4 ≤ _; decide)
        rw [← hfour.o] at this
        rw [← hfour.o]
        exact this
      have HOS := Sd.mk HO0
      clear HO0
      go_loopg [7, 41] ls.length (fun gk v i wr => ∃ (k : Nat) (ys : List UInt8) (A1 : Option Addr) (c1 : Nat), gk + k = ls.length ∧ i = .int .i64 k ∧ v = .slice A1 ys.length c1 ∧ Sd (ys = four s ++ (ls.take k).flatten) ∧ Sd (OwnV wr 5 (.slice A1 ys.length c1) (bvs ys)) ∧ Sd (Keeps NoB w wr) ∧ Sd (Fresh w (.slice A1 ys.length c1)))
      case atStart => exact ⟨0, four s, _, _, rfl, rfl, rfl, ⟨by simp⟩, HOS, ⟨(Keeps.refl NoB w).alloc _⟩, ⟨fresh_lit w _ _⟩⟩
      case round =>
        clear HOS
        obtain ⟨k, ys, A1, c1, hk, rfl, rfl, hys, HO, HK, HF⟩ := hrel
        have hyl : ys.length ≤ 4 + s := by
          have e2 : ls.flatten = (ls.take k).flatten ++ (ls.drop k).flatten := by rw [← List.flatten_append, List.take_append_drop]
          rw [hys.o, hn.o, e2]; simp [four]; omega
        by_cases hlt : k < ls.length
        · have hq : (k : Int) < (ls.length : Int) := by omega
          obtain ⟨b1, o1, A2, c2, rfl, hc, hb⟩ := (HR.o.keeps HK.o (fun _ _ f => f)).at_ k hlt
          have htk : Sd ((ls.take (k + 1)).flatten = (ls.take k).flatten ++ ls[k]) := ⟨flatten_take ls k hlt⟩
          have hto : (ls.take k).flatten.length + ls[k].length ≤ s := by
            have e := congrArg List.length (flatten_take ls k hlt)
            have e2 : ls.flatten = (ls.take (k + 1)).flatten ++ (ls.drop (k + 1)).flatten := by rw [← List.flatten_append, List.take_append_drop]
            rw [hn.o, e2, List.length_append, e, List.length_append]; omega
          have hl0 : ls[k].length ≤ 1048576 := by omega
          clear hto
          generalize ls[k] = l0 at *
          have HB := Sd.mk hb
          clear hb
          go_wp2_with (at_builtin; go_must (refine app_any rfl _ _ 49 5 (.int .u8 0) 1 rfl Tryz.underlying49 infoU8' rfl (.slice A1 ys.length c1) (bvs ys) rfl HO.o A2 l0.length c2 (bvs l0) rfl (bvs_length l0) (rd_vrd HB.o.rd.2.2.2.2.2) (bvs_one l0) (by rw [bvs_length]; omega) (by rw [bvs_length]; omega) ?_))
          intro A3 c3 w3 HO3 HK3 HG3
          have HO3' := Sd.mk HO3
          have HK3' := Sd.mk HK3
          have HG3' := Sd.mk HG3
          clear HO3 HK3 HG3
          go_wp2
          go_roundg (gk - 1)
          case measure => omega
          case rel =>
            have e1 : (bvs ys).length + l0.length = (ys ++ l0).length := by rw [bvs_length, List.length_append]
            rw [e1] at HO3' HG3' ⊢
            rw [← bvs_append] at HO3'
            exact ⟨k + 1, ys ++ l0, A3, c3, by omega, by go_num, rfl, ⟨by rw [htk.o, hys.o, List.append_assoc]⟩, HO3', ⟨HK.o.fresh HF.o HK3'.o⟩, ⟨HF.o.grew HK.o.size HG3'.o⟩⟩
        · have hq : ¬ (k : Int) < (ls.length : Int) := by omega
          have he : Sd (ls.take k = ls) := ⟨List.take_of_length_le (by omega)⟩
          have hy2 : Sd (ys = four ls.flatten.length ++ ls.flatten) := ⟨by rw [hys.o, he.o, hn.o]⟩
          clear hys
          go_wp2_with fail
          refine (crc_any _ _ _ [ys] (LRd.one HO.o.bts _) (by simp)).mono ?_
          rintro e w2 ⟨rfl, rfl⟩
          have hcl := crc_lt ys
          have ef : [ys].flatten = ys := by simp
          rw [ef]
          have hturn : Sd ([Value.int .u8 ((crc ys : Int) % 256), .int .u8 ((crc ys : Int) / 256 % 256), .int .u8 ((crc ys : Int) / 65536 % 256), .int .u8 ((crc ys : Int) / 16777216)] = bvs (turned (crc ys))) := ⟨turned_vals _ hcl⟩
          have hyy : Sd (sealL ls.flatten = ys ++ turned (crc ys)) := ⟨by unfold sealL; rw [← hy2.o]⟩
          clear ef
          generalize crc ys = C at *
          go_wp2_with (at_builtin; go_must (refine app_row rfl _ _ 49 5 (.int .u8 0) 1 rfl Tryz.underlying49 infoU8' rfl (.slice A1 ys.length c1) (bvs ys) rfl ((HO.o.keeps (((Keeps.refl NoB _).alloc _).alloc _) (fun _ _ f => f))) ⟨_, 0, none⟩ 4 4 [Value.int .u8 ((C : Int) % 256), .int .u8 ((C : Int) / 256 % 256), .int .u8 ((C : Int) / 65536 % 256), .int .u8 ((C : Int) / 16777216)] rfl rfl (fun _ _ hj => new_many (by simp) hj) many1 (by rw [bvs_length]; omega) (by rw [bvs_length]; omega) ?_))
          intro A3 c3 w3 HO3 HK3 HG3
          have HO3' := Sd.mk HO3
          have HK3' := Sd.mk HK3
          have HG3' := Sd.mk HG3
          clear HO3 HK3 HG3
          go_wp2
          go_ret2
          have e1 : (bvs ys).length + 4 = (ys ++ turned C).length := by rw [bvs_length, List.length_append]; rfl
          rw [e1] at HO3' HG3'
          rw [hturn.o, ← bvs_append] at HO3'
          rw [hyy.o]
          exact .inr ⟨by rw [← hn.o]; exact hs, A3, c3, by rw [← e1]; rfl, HO3'.o, HF.o.grew HK.o.size HG3'.o.undoalloc.undoalloc, HK.o.fresh HF.o HK3'.o.undoalloc.undoalloc⟩
end Go.Proofs.YtdjamijbhaplgaaGreat
namespace Go.Proofs.YtdjamijbhaplgaaGreat
open Go.RowKit

theorem getD_eq {p : List UInt8} {i : Nat} (h : i < p.length) : p.getD i 0 = p[i] := by simp [List.getD, h]
set_option maxHeartbeats 4000000 in
set_option maxRecDepth 100000 in
theorem open_any (w : World) (A : Option Addr) (c : Nat) (p : List UInt8) (hb : Bts w (.slice A p.length c) p) (hl : p.length ≤ 140737488355328) :
    Calls Tryz.prog 100 #[.slice A p.length c] w fun e w' => ∃ A' c', e = .returned (.tuple #[.slice A' (openL p).1.length c', .int .i64 (openL p).2.1, .int .i64 (openL p).2.2]) ∧ OwnV w' 5 (.slice A' (openL p).1.length c') (bvs (openL p).1) ∧ Fresh w (.slice A' (openL p).1.length c') ∧ Keeps NoB w w' := by
  have HB := Sd.mk hb
  clear hb
  by_cases h4 : p.length < 4
  · have hq : (p.length : Int) < 4 := by omega
    have hf : Sd (openL p = ([], 0, 3)) := ⟨by unfold openL; rw [if_pos h4]⟩
    clear h4
    go_enter Tryz.func100, Tryz.ntmps100
    go_wp2
    go_ret3
    rw [hf.o]
    exact ⟨none, 0, rfl, (Own.nil _ 0).v, (fun k hk => by simp [Value.ownBlock] at hk), Keeps.refl _ _⟩
  · have hf : Sd (openL p = if 1048576 < be p then ([], 0, 1)
      else if p.length < be p + 8 then ([], 0, 3)
      else if (p.drop (4 + be p)).take 4 = turned (crc (p.take (4 + be p))) then ((p.drop 4).take (be p), be p + 8, 0)
      else ([], 0, 12)) := ⟨by unfold openL; rw [if_neg h4]⟩
    have hq : ¬ (p.length : Int) < 4 := by omega
    obtain ⟨b, o, rfl, g0⟩ := HB.o.rd.2.2.2.2.2 0 (by omega)
    have k0 : w.cell? ⟨b, o, none⟩ = some (.int .u8 (p[0].toNat : Int)) := g0
    have k1 : w.cell? ⟨b, o + 1, none⟩ = some (.int .u8 (p[1].toNat : Int)) := by obtain ⟨b', o', e, g⟩ := HB.o.rd.2.2.2.2.2 1 (by omega); cases e; exact g
    have k2 : w.cell? ⟨b, o + 2, none⟩ = some (.int .u8 (p[2].toNat : Int)) := by obtain ⟨b', o', e, g⟩ := HB.o.rd.2.2.2.2.2 2 (by omega); cases e; exact g
    have k3 : w.cell? ⟨b, o + 3, none⟩ = some (.int .u8 (p[3].toNat : Int)) := by obtain ⟨b', o', e, g⟩ := HB.o.rd.2.2.2.2.2 3 (by omega); cases e; exact g
    have hbe : Sd (be p = p[0].toNat * 16777216 + p[1].toNat * 65536 + p[2].toNat * 256 + p[3].toNat) := ⟨by
      unfold be; rw [getD_eq (by omega), getD_eq (by omega), getD_eq (by omega), getD_eq (by omega)]⟩
    have hi0 : 0 < p.length := by omega
    have hi1 : (1 : Int) < (p.length : Int) := by omega
    have hi2 : (2 : Int) < (p.length : Int) := by omega
    have hi3 : (3 : Int) < (p.length : Int) := by omega
    generalize p[0] = x0 at *
    generalize p[1] = x1 at *
    generalize p[2] = x2 at *
    generalize p[3] = x3 at *
    clear g0 h4
    have l0 : x0.toNat < 256 := x0.toNat_lt
    have l1 : x1.toNat < 256 := x1.toNat_lt
    have l2 : x2.toNat < 256 := x2.toNat_lt
    have l3 : x3.toNat < 256 := x3.toNat_lt
    go_enter Tryz.func100, Tryz.ntmps100
    have hor := or4_i64 _ _ _ _ l0 l1 l2 l3
    rw [← hbe.o] at hor
    have HOR := Sd.mk hor
    have hN32 : be p < 4294967296 := by rw [hbe.o]; omega
    clear hor
    go_wp2_with fail
    go_quiet (fail)
    rw [HOR.o]
    clear HOR hbe k0 k1 k2 k3 l0 l1 l2 l3 hi0 hi1 hi2 hi3
    generalize be p = N at *
    by_cases hN : 1048576 < N
    · have hq2 : (1048576 : Int) < (N : Int) := by omega
      rw [if_pos hN] at hf
      clear hN
      go_wp2
      go_ret3
      rw [hf.o]
      exact ⟨none, 0, rfl, (Own.nil _ 0).v, (fun k hk => by simp [Value.ownBlock] at hk), (Keeps.refl _ _).drewN _⟩
    · rw [if_neg hN] at hf
      have hq2 : ¬ (1048576 : Int) < (N : Int) := by omega
      have hN2 : N ≤ 1048576 := by omega
      by_cases hs : p.length < N + 8
      · have hq3 : (p.length : Int) < 4 + (N : Int) + 4 := by omega
        rw [if_pos hs] at hf
        clear hs hN
        go_wp2
        go_ret3
        rw [hf.o]
        exact ⟨none, 0, rfl, (Own.nil _ 0).v, (fun k hk => by simp [Value.ownBlock] at hk), (Keeps.refl _ _).drewN _⟩
      · have hq3 : ¬ (p.length : Int) < 4 + (N : Int) + 4 := by omega
        have hlen : N + 8 ≤ p.length := by omega
        rw [if_neg hs] at hf
        clear hs hN
        obtain ⟨i0, hi, hz0, hz1, hz2⟩ := info_parts infoU8
        have hcap := HB.o.rd.2.1
        have hsl : ∀ W : World, (Instr.slice 49 (.slice (some ⟨b, o, none⟩) p.length c) none (some (.int .i64 (4 + (N : Int)))) none).run Tryz.prog W = .ok (.slice (some ⟨b, o, none⟩) (4 + N) c) W := fun W =>
          slice_run_h 49 5 .i64 Tryz.underlying49 hi hz1 _ p.length c (4 + N) (fun _ a ha => by cases ha; rfl) (by omega) W _ (by omega)
        have hsl2 : ∀ W : World, (Instr.slice 49 (.slice (some ⟨b, o, none⟩) p.length c) (some (.int .i64 4)) (some (.int .i64 (4 + (N : Int)))) none).run Tryz.prog W = .ok (.slice (cutA (some ⟨b, o, none⟩) c 4) N (c - 4)) W := fun W => by
          have := slice_run 49 5 .i64 .i64 Tryz.underlying49 hi hz1 (some ⟨b, o, none⟩) p.length c 4 (4 + N) (by omega) (by omega) W 4 (4 + (N : Int)) rfl (by omega)
          rw [this, show 4 + N - 4 = N by omega]
        have hl4 : (p.take (4 + N)).length = 4 + N := by simp; omega
        have HT := Sd.mk (HB.o.take (4 + N) (by omega))
        have HCut := Sd.mk (HB.o.cut 4 (4 + N) (by omega) (by omega))
        clear hi hz0 hz1 hz2
        go_wp2_with fail
        have HC := crc_any ((w.drewN nq).alloc (.cells #[.slice (some ⟨b, o, none⟩) (4 + N) c] 49)) (some ⟨w.heap.size, 0, none⟩) 1 [p.take (4 + N)] (by
          have := LRd.one (w := w.drewN nq) (A := some ⟨b, o, none⟩) (c := c) (xs := p.take (4 + N)) (by rw [hl4]; exact HT.o) 49
          rw [hl4] at this
          exact this) (by simp)
        refine HC.mono ?_
        clear HC
        rintro e w2 ⟨rfl, rfl⟩
        have ef : [p.take (4 + N)].flatten = p.take (4 + N) := by simp
        rw [ef]
        clear ef
        have hcl := crc_lt (p.take (4 + N))
        generalize crc (p.take (4 + N)) = C at *
        clear hsl
        have HB1 : Sd (Bts ((w.drewN nq).alloc (.cells #[.slice (some ⟨b, o, none⟩) (4 + N) c] 49)) (.slice (some ⟨b, o, none⟩) p.length c) p) := ⟨HB.o.keeps (((Keeps.refl NoB w).drewN nq).alloc _) (fun _ _ _ _ _ f => f)⟩
        have HK1 : Sd (Keeps NoB w ((w.drewN nq).alloc (.cells #[.slice (some ⟨b, o, none⟩) (4 + N) c] 49))) := ⟨((Keeps.refl NoB w).drewN nq).alloc _⟩
        clear HT
        go_wp2_with fail
        generalize (w.drewN nq).alloc (.cells #[.slice (some ⟨b, o, none⟩) (4 + N) c] 49) = w1 at *
        go_loopg [48] 4 (fun gk i wr => ∃ (k m : Nat), gk + k = 4 ∧ i = .int .i64 k ∧ k ≤ 4 ∧ Sd ((p.drop (4 + N)).take k = (turned C).take k) ∧ Sd (wr = w1.drewN m))
        case atStart => exact ⟨0, 0, rfl, rfl, by omega, ⟨by simp⟩, ⟨rfl⟩⟩
        case round =>
          obtain ⟨k, m, hk, rfl, hk4, hpre, ⟨rfl⟩⟩ := hrel
          by_cases hlt : k < 4
          · have hq4 : (k : Int) < 4 := by omega
            have hpl : 4 + N + k < p.length := by omega
            obtain ⟨b', o', e', hc⟩ := HB1.o.rd.2.2.2.2.2 (4 + N + k) hpl
            cases e'
            have hc' : w1.cell? ⟨b, o + (4 + N + k), none⟩ = some (.int .u8 (p[4 + N + k].toNat : Int)) := hc
            have hdl : k < (p.drop (4 + N)).length := by simp; omega
            have hdg : (p.drop (4 + N))[k] = p[4 + N + k] := by simp
            have ht := turned_at C k hlt
            have htl : k < (turned C).length := hlt
            have h1 : IntKind.i64.wrap (4 + (N : Int) + (k : Int)) = 4 + (N : Int) + (k : Int) := IntWalk.i64_in _ (by omega)
            have h2 : 4 + (N : Int) + (k : Int) < (p.length : Int) := by omega
            have h3 : 0 ≤ 4 + (N : Int) + (k : Int) := by omega
            have h4 : (4 + (N : Int) + (k : Int)).toNat = 4 + N + k := by omega
            have h5 : IntKind.i64.wrap (8 * (k : Int)) = 8 * (k : Int) := IntWalk.i64_in _ (by omega)
            have h6 : 0 ≤ 8 * (k : Int) := by omega
            have h7 : 8 * (k : Int) ≤ 32 := by omega
            have h8 : (8 * (k : Int)).toNat = 8 * k := by omega
            have hpow : ((C : Int) / 2 ^ (8 * k) % 256) = ((C / 2 ^ (8 * k) % 256 : Nat) : Int) := by push_cast; rfl
            by_cases he : p[4 + N + k] = (turned C)[k]
            · have hst : Sd ((p.drop (4 + N)).take (k + 1) = (turned C).take (k + 1)) := ⟨take_snoc _ _ k hdl htl hpre.o (by rw [hdg]; exact he)⟩
              have hval : ((p[4 + N + k].toNat : Int) != (C : Int) / 2 ^ (8 * k) % 256) = false := by rw [hpow, he, ht]; simp
              clear hc hdg ht he hdl htl hpow
              generalize p[4 + N + k] = cc at *
              go_wp2_with fail
              go_quiet (fail)
              clear h1 h2 h3 h4 h5 h6 h7 h8
              go_wp2_with fail
              go_roundg (gk - 1)
              case measure => omega
              case rel => exact ⟨k + 1, _, by omega, by go_num, by omega, hst, ⟨rfl⟩⟩
            · have hval : ((p[4 + N + k].toNat : Int) != (C : Int) / 2 ^ (8 * k) % 256) = true := by
                rw [hpow, ← ht]
                simp only [bne_iff_ne, ne_eq]
                intro e
                exact he (UInt8.toNat_inj.1 (by omega))
              have hno : ¬ (p.drop (4 + N)).take 4 = turned C := ne_of_at _ _ k 4 hdl htl hlt (by rw [hdg]; exact he)
              rw [if_neg hno] at hf
              clear hc hdg ht he hdl htl hpow hno
              generalize p[4 + N + k] = cc at *
              go_wp2_with fail
              go_quiet (fail)
              clear h1 h2 h3 h4 h5 h6 h7 h8
              go_wp2_with fail
              go_ret3
              rw [hf.o]
              exact ⟨none, 0, rfl, (Own.nil _ 0).v, (fun k hk => by simp [Value.ownBlock] at hk), (HK1.o.drewN _).drewN _⟩
          · have hq4 : ¬ (k : Int) < 4 := by omega
            have he4 : k = 4 := by omega
            have hyes : (p.drop (4 + N)).take 4 = turned C := by
              have := hpre.o
              rw [he4] at this
              rw [this]; exact List.take_of_length_le (by rw [turned_len]; omega)
            rw [if_pos hyes] at hf
            clear he4 hyes
            have HCl := Sd.mk (clone_any (w1.drewN m) (cutA (some ⟨b, o, none⟩) c 4) N (c - 4) ((p.drop 4).take N) (by
              have := (HCut.o.keeps HK1.o (fun _ _ _ _ _ f => f))
              rw [show 4 + N - 4 = N by omega] at this
              exact this) (by simp; omega))
            go_wp2_with fail
            refine HCl.o.mono ?_
            clear HCl
            rintro e w2 ⟨A', c', rfl, hO, hBl⟩
            have HP := Sd.mk (And.intro hO hBl)
            clear hO hBl
            go_wp2
            go_ret3
            rw [hf.o]
            refine ⟨A', c', by go_num, HP.o.1.v, fun k hk => Nat.le_trans HK1.o.size (World.ownsRow.lt HP.o.1 k hk).1, HK1.o.then (Keeps.undrew (Keeps.of_below HP.o.2 _))⟩
end Go.Proofs.YtdjamijbhaplgaaGreat
namespace Go.Proofs.YtdjamijbhaplgaaGreat
open Go.RowKit

theorem infoBs : (Tryz.prog.info? 49).map (fun i => (i.zero, i.size, i.bytes)) = some (some (.slice none 0 0), 1, 24) := by kernel_rfl
/-- An owned row of owned rows of bytes. -/
def LOwn (w : World) (v : Value) (ls : List (List UInt8)) : Prop :=
  ∃ vs : List Value, vs.length = ls.length ∧ OwnV w 49 v vs ∧ ∀ i (h : i < vs.length) (h' : i < ls.length), OwnV w 5 vs[i] (bvs ls[i])
theorem OwnV.ne {w : World} {e e' : TypeId} {v v' : Value} {vs vs' : List Value} (h : OwnV w e v vs) (h' : OwnV w e' v' vs') (hne : e ≠ e') : Off (ownB v) v' := by
  intro k hk hk'
  rcases h.2 with ⟨rfl, _⟩ | ⟨g, cap, cur, rfl, hb, hg, r⟩
  · simp [ownB, Value.ownBlock] at hk'
  rcases h'.2 with ⟨rfl, _⟩ | ⟨g', cap', cur', rfl, hb', hg', r'⟩
  · simp [Value.ownBlock] at hk
  · simp [Value.ownBlock] at hk
    simp [ownB, Value.ownBlock] at hk'
    subst hk hk'
    rw [hg] at hg'
    simp at hg'
    exact hne hg'.2
theorem LOwn.nil (w : World) : LOwn w (.slice none 0 0) [] := ⟨[], rfl, ⟨by simp, .inl ⟨rfl, rfl⟩⟩, fun i h => by simp at h⟩
theorem LOwn.lrd {w : World} {A : Option Addr} {n c : Nat} {ls : List (List UInt8)} (h : LOwn w (.slice A n c) ls) : n = ls.length ∧ LRd w A ls := by
  obtain ⟨vs, hl, ho, hb⟩ := h
  have := ho.vrd
  exact ⟨by omega, vs, hl, this.2.2.2.2.2, fun i hi hi' => (hb i hi hi').bts⟩

set_option maxHeartbeats 4000000 in
set_option maxRecDepth 100000 in
theorem frames_any (w : World) (A : Option Addr) (c : Nat) (p : List UInt8) (hb : Bts w (.slice A p.length c) p) (hl : p.length ≤ 1099511627776) :
    Calls Tryz.prog 69 #[.slice A p.length c] w fun e w' => ∃ A' c', e = .returned (.tuple #[.slice A' (framesL p).1.length c', .int .i64 (framesL p).2.1, .int .i64 (framesL p).2.2]) ∧ LOwn w' (.slice A' (framesL p).1.length c') (framesL p).1 ∧ Fresh w (.slice A' (framesL p).1.length c') ∧ Keeps NoB w w' := by
  have HB := Sd.mk hb
  clear hb
  obtain ⟨R, hR⟩ : ∃ R, R = framesL p := ⟨_, rfl⟩
  rw [← hR]
  have HRR : Sd (framesGo (p.length + 1) p 0 [] = R) := ⟨hR.symm⟩
  clear hR
  obtain ⟨i0, hi, hz0, hz1, hz2⟩ := info_parts infoU8
  go_enter Tryz.func69, Tryz.ntmps69
  go_wp2_with fail
  go_loopg [5, 6] (p.length + 1) (fun gk l i wr => ∃ (k : Nat) (acc : List (List UInt8)) (A1 : Option Addr) (c1 : Nat), p.length < gk + k ∧ i = .int .i64 k ∧ k ≤ p.length ∧ l = .slice A1 acc.length c1 ∧ acc.length ≤ k ∧ Sd (framesGo gk p k acc = R) ∧ Sd (LOwn wr (.slice A1 acc.length c1) acc) ∧ Sd (Fresh w (.slice A1 acc.length c1)) ∧ Sd (Keeps NoB w wr))
  case atStart => exact ⟨0, [], none, 0, by omega, rfl, by omega, rfl, by simp, HRR, ⟨LOwn.nil _⟩, ⟨fun k hk => by simp [Value.ownBlock] at hk⟩, ⟨Keeps.refl _ _⟩⟩
  case round =>
    clear HRR
    obtain ⟨k, acc, A1, c1, hk, rfl, hkl, rfl, hacl, HRR, HO, HF, HK⟩ := hrel
    by_cases hlt : k < p.length
    · have hq : (k : Int) < (p.length : Int) := by omega
      obtain ⟨g, rfl⟩ : ∃ g, gk = g + 1 := ⟨gk - 1, by omega⟩
      have hsl : ∀ W : World, (Instr.slice 49 (.slice A p.length c) (some (.int .i64 (k : Int))) none none).run Tryz.prog W = .ok (.slice (cutA A c k) (p.length - k) (c - k)) W := fun W =>
        slice_run_l 49 5 .i64 Tryz.underlying49 hi hz1 A p.length c k (by omega) W _ rfl
      have hdl : (p.drop k).length = p.length - k := by simp
      have HOp := Sd.mk (open_any wr (cutA A c k) (c - k) (p.drop k) (by rw [hdl]; exact (HB.o.drop k (by omega)).keeps HK.o (fun _ _ _ _ _ f => f)) (by omega))
      rw [hdl] at HOp
      have hgo : Sd (framesGo (g + 1) p k acc = if (openL (p.drop k)).2.2 = 0 then framesGo g p (k + (openL (p.drop k)).2.1) (acc ++ [(openL (p.drop k)).1]) else (acc, k, (openL (p.drop k)).2.2)) := ⟨by rw [framesGo, if_pos hlt]⟩
      have hok := Sd.mk (openL_ok (p.drop k))
      rw [hdl] at hok
      generalize openL (p.drop k) = Q at *
      obtain ⟨q, n, er⟩ := Q
      dsimp only at *
      clear hdl
      go_wp2_with fail
      refine HOp.o.mono ?_
      clear HOp hsl
      rintro e w2 ⟨A2, c2, rfl, hO2, hF2, hK2⟩
      have HO2 := Sd.mk hO2
      have HF2 := Sd.mk hF2
      have HK2 := Sd.mk hK2
      clear hO2 hF2 hK2
      by_cases he : er = 0
      · have hb : (er != 0) = false := by simp [he]
        have hgo2 := hgo.o
        rw [if_pos he, HRR.o] at hgo2
        have HG := Sd.mk hgo2
        have hok2 := hok.o he
        clear hgo2 he hok
        have HV : Sd (OwnV w2 49 (.slice A1 acc.length c1) (HO.o.choose)) := ⟨(HO.o.choose_spec.2.1).keeps HK2.o (fun _ _ f => f)⟩
        have hvl := HO.o.choose_spec.1
        have hve := HO.o.choose_spec.2.2
        generalize HO.o.choose = vs at *
        have HVE := Sd.mk hve
        have HVL := Sd.mk hvl
        clear hve hvl
        have hOV : Sd (OwnV (w2.alloc (.cells #[.slice A2 q.length c2] 49)) 49 (.slice A1 acc.length c1) vs) := ⟨HV.o.keeps ((Keeps.refl NoB _).alloc _) (fun _ _ f => f)⟩
        go_wp2_with (at_builtin; go_must (refine app_row rfl _ _ 145 49 (.slice none 0 0) 24 rfl Tryz.underlying145 infoBs rfl (.slice A1 acc.length c1) vs rfl hOV.o ⟨_, 0, none⟩ 1 1 [.slice A2 q.length c2] rfl rfl (fun _ _ hj => new_one hj) (fun u hu => by simp at hu; subst hu; rfl) (by rw [HVL.o]; omega) (by rw [HVL.o]; omega) ?_))
        intro A3 c3 w3 HO3 HK3 HG3
        have HO3' := Sd.mk HO3
        have HK3' := Sd.mk HK3
        have HG3' := Sd.mk HG3
        clear HO3 HK3 HG3
        go_wp2
        go_roundg g
        case measure => omega
        case rel =>
          have hvl := HVL.o
          have e1 : vs.length + 1 = (acc ++ [q]).length := by simp; omega
          rw [e1] at HO3' HG3' ⊢
          refine ⟨k + n, acc ++ [q], A3, c3, by omega, by go_num, by omega, rfl, by simp; omega, ⟨HG.o.symm⟩, ⟨vs ++ [.slice A2 q.length c2], by simp; omega, HO3'.o, fun i hi hi' => ?_⟩, ⟨HF.o.grew (Nat.le_trans HK.o.size HK2.o.size) HG3'.o.undoalloc⟩, ⟨(HK.o.then HK2.o).fresh HF.o HK3'.o.undoalloc⟩⟩
          have hne : ∀ u us, OwnV w2 5 u us → OwnV w3 5 u us := fun u us hu => hu.keeps HK3'.o.undoalloc (HV.o.ne hu (by decide))
          by_cases hil : i < vs.length
          · have h1 := HVE.o i hil (by omega)
            rw [List.getElem_append_left hil, List.getElem_append_left (by omega)]
            exact hne _ _ (h1.keeps HK2.o (fun _ _ f => f))
          · have h2 : i = vs.length := by simp at hi; omega
            subst h2
            rw [List.getElem_append_right (by omega), List.getElem_append_right (by omega)]
            simp only [hvl, Nat.sub_self, List.getElem_cons_zero]
            exact hne _ _ HO2.o
      · have hb : (er != 0) = true := by simp [he]
        have hgo2 := hgo.o
        rw [if_neg he, HRR.o] at hgo2
        have HG := Sd.mk hgo2
        clear hgo2 he hok
        go_wp2
        go_ret3
        rw [HG.o]
        obtain ⟨vs, hvl, hv, hve⟩ := HO.o
        exact ⟨A1, c1, rfl, ⟨vs, hvl, hv.keeps HK2.o (fun _ _ f => f), fun i hi hi' => (hve i hi hi').keeps HK2.o (fun _ _ f => f)⟩, HF.o, HK.o.then HK2.o⟩
    · have hq : ¬ (k : Int) < (p.length : Int) := by omega
      have hR : R = (acc, k, 0) := by
        rw [← HRR.o]
        cases gk with
        | zero => rfl
        | succ g => rw [framesGo, if_neg hlt]
      have HR := Sd.mk hR
      clear hR
      go_wp2
      go_ret3
      rw [HR.o]
      exact ⟨A1, c1, rfl, HO.o, HF.o, HK.o⟩
end Go.Proofs.YtdjamijbhaplgaaGreat
