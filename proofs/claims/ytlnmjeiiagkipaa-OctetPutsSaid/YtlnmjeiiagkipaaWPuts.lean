/- OctetPuts: the walk. -/
import Derived.Test.YtlnmjeiiagkipaaArgs
import Derived.Test.YtlnmjeiiagkipaaOctM
import Derived.Deep.RegionLaw
import Derived.Deep.DeepCutAuto
namespace Go.Proofs.Ytlnmjeiiagkipaa.octetPuts
open Go.RowKit
theorem lit_grew {w w4 : World} {o : Obj} {n c : Nat} {v' : Value} (k : Keeps (ownB (.slice (some ⟨w.heap.size, 0, none⟩) n c)) (w.alloc o) w4) (g : Grew (w.alloc o) (.slice (some ⟨w.heap.size, 0, none⟩) n c) v') : Keeps NoB w w4 ∧ Fresh w v' :=
  ⟨((Keeps.refl NoB w).alloc _).fresh (fresh_lit w _ _) k, (fresh_lit w n c).grew (w1 := w.alloc o) (by simp) g⟩

set_option maxHeartbeats 4000000 in
set_option maxRecDepth 100000 in
theorem walk (w : World) (A0 : Option Addr) (c0 : Nat) (bs : List UInt8) (hb : Bts w (.slice A0 bs.length c0) bs) (A1 : Option Addr) (c1 : Nat) (ns : List Nat) (h1 : VRd w A1 (u64s ns)) (hns : ∀ m ∈ ns, m < 18446744073709551616)
    (A2_0 : Option Addr) (c2_0 : Nat) (is : List Int) (h2 : VRd w A2_0 (i64s is)) (his : ∀ m ∈ is, -9223372036854775808 ≤ m ∧ m ≤ 9223372036854775807) (A3 : Option Addr) (c3 : Nat) (ls : List (List UInt8)) (h3 : VRd w A3 (strs ls)) (hls : ∀ s ∈ ls, s.length ≤ 140737488351232)
    (l0 : bs.length ≤ 9223372036854775807) (l1 : ns.length ≤ 9223372036854775807) (l2 : is.length ≤ 9223372036854775807) (l3 : ls.length ≤ 9223372036854775807) (hbl : bs.length ≤ 140737488351232) :
    Calls Try.prog 4 #[.slice A0 bs.length c0, .slice A1 ns.length c1, .slice A2_0 is.length c2_0, .slice A3 ls.length c3] w fun e w' => e = .returned (.bool true) ∧ Keeps NoB w w' := by
  have HB := Sd.mk hb
  have H1 := Sd.mk h1
  have HN := Sd.mk hns
  have H2 := Sd.mk h2
  have HI := Sd.mk his
  have H3 := Sd.mk h3
  have HL := Sd.mk hls
  clear hb h1 hns h2 his h3 hls
  go_enter Try.func4, Try.ntmps4
  go_wp2_with fail
  go_loopg [9, 10] 62 (fun gk n i wr => ∃ (k s : Nat), gk + k = 62 ∧ i = .int .i64 k ∧ k ≤ 61 ∧ k ≤ ls.length ∧ n = .int .i64 s ∧ s ≤ k * 140737488351232 ∧ Sd (s = sumLen (ls.take k)) ∧ Sd (w = wr))
  case atStart => exact ⟨0, 0, rfl, rfl, by omega, by omega, rfl, by omega, ⟨rfl⟩, ⟨rfl⟩⟩
  case round =>
    obtain ⟨k, s, hk, rfl, hk1, hkl, rfl, hs, hsum, ⟨rfl⟩⟩ := hrel
    by_cases hlt : k < ls.length ∧ k ≤ 60
    · obtain ⟨hlt, hle⟩ := hlt
      have hq : decide (k < ls.length) = true := by simpa using hlt
      have hq2 : decide ((k : Int) ≤ 60) = true := by simp; omega
      obtain ⟨b1, o1, rfl, hc⟩ := H3.o k (by rw [strs_len]; exact hlt)
      have hc2 : w.cell? ⟨b1, o1 + k, none⟩ = some (.string (sOf ls[k])) := by rw [hc]; simp [strs]
      have hsz := HL.o _ (List.getElem_mem hlt)
      have htk : Sd (sumLen (ls.take (k + 1)) = sumLen (ls.take k) + ls[k].length) := ⟨by rw [List.take_succ_eq_append_getElem hlt, sumLen_snoc]⟩
      clear hc
      have hss : (sOf ls[k]).size = ls[k].length := sOf_size _
      generalize sOf ls[k] = S0 at *
      have HSS := Sd.mk hss
      rw [← hss] at hsz
      clear hss
      go_wp2
      go_roundg (gk - 1)
      case measure => omega
      case rel => exact ⟨k + 1, s + S0.size, by omega, by go_num, by omega, by omega, by go_num, by omega, ⟨by rw [htk.o, ← hsum.o, HSS.o]⟩, ⟨rfl⟩⟩
    · have hfin : Sd (ls.length ≤ 60 → s = sumLen ls) := ⟨fun h => by rw [hsum.o, List.take_of_length_le (by omega)]⟩
      by_cases hk2 : k < ls.length
      · have hq : decide (k < ls.length) = true := by simpa using hk2
        have hq2 : decide ((k : Int) ≤ 60) = false := by simp; omega
        have hbig : 60 < ls.length := by omega
        clear hlt
        by_cases g1 : 20000 < bs.length + s
        · go_wp2_with (go_at_call 12; refine (live_any _).mono ?_; rintro e w' ⟨rfl, hk'⟩)
          go_ret
          exact ⟨rfl, hk'⟩
        by_cases g2 : 60 < ns.length
        · go_wp2_with (go_at_call 12; refine (live_any _).mono ?_; rintro e w' ⟨rfl, hk'⟩)
          go_ret
          exact ⟨rfl, hk'⟩
        by_cases g3 : 60 < is.length
        · go_wp2_with (go_at_call 12; refine (live_any _).mono ?_; rintro e w' ⟨rfl, hk'⟩)
          go_ret
          exact ⟨rfl, hk'⟩
        · go_wp2_with (go_at_call 12; refine (live_any _).mono ?_; rintro e w' ⟨rfl, hk'⟩)
          go_ret
          exact ⟨rfl, hk'⟩
      · have hq : decide (k < ls.length) = false := by simpa using hk2
        have hke : k = ls.length := by omega
        by_cases g1 : 20000 < bs.length + s
        · clear hke
          go_wp2_with (go_at_call 12; refine (live_any _).mono ?_; rintro e w' ⟨rfl, hk'⟩)
          go_ret
          exact ⟨rfl, hk'⟩
        by_cases g2 : 60 < ns.length
        · clear hke
          go_wp2_with (go_at_call 12; refine (live_any _).mono ?_; rintro e w' ⟨rfl, hk'⟩)
          go_ret
          exact ⟨rfl, hk'⟩
        by_cases g3 : 60 < is.length
        · clear hke
          go_wp2_with (go_at_call 12; refine (live_any _).mono ?_; rintro e w' ⟨rfl, hk'⟩)
          go_ret
          exact ⟨rfl, hk'⟩
        by_cases g4 : 60 < ls.length
        · clear hke
          go_wp2_with (go_at_call 12; refine (live_any _).mono ?_; rintro e w' ⟨rfl, hk'⟩)
          go_ret
          exact ⟨rfl, hk'⟩
        have hsl : Sd (s = sumLen ls) := ⟨hfin.o (by omega)⟩
        clear hke hfin hlt hk2 hsum hs
        have hbv := bvs_length bs
        have HBV := Sd.mk hbv
        clear hbv
        go_wp2_with (at_builtin; go_must (refine app_any rfl _ _ 22 5 (.int .u8 0) 1 rfl Try.underlying22 infoU8' rfl _ [] rfl (own_lit w 5 [] (by simp)) A0 bs.length c0 (bvs bs) rfl HBV.o ((rd_vrd HB.o.rd.2.2.2.2.2).below ((Below.refl _ _).alloc (Nat.le_refl _) _)) (bvs_one bs) (show 0 + bs.length ≤ 9223372036854775807 by omega) (show (0 + bs.length) * 1 ≤ 140737488355328 by omega) ?_))
        intro A4 c4 w4 HO4 HK4 HG4
        have HO4' := Sd.mk HO4
        obtain ⟨hk4, hf4⟩ := lit_grew HK4 HG4
        have HK4' := Sd.mk hk4
        have HF4' := Sd.mk hf4
        clear hk4 hf4 HO4 HK4 HG4 HBV
        have HL0 : Sd (A0 = A0 ∧ bs.length ≤ 140737488351232) := ⟨rfl, hbl⟩
        have hbl2 : bs.length ≤ 20000 := by omega
        go_wp2_with fail
        go_loopg [11, 12] 61 (fun gk v i wr => ∃ (k c : Nat) (ys : List UInt8) (A : Option Addr), gk + k = 61 ∧ i = .int .i64 k ∧ k ≤ ns.length ∧ v = .slice A ys.length c ∧ ys.length ≤ bs.length + 10 * k ∧ Sd (ys = bs ++ putL (ns.take k)) ∧ Sd (OwnV wr 5 (.slice A ys.length c) (bvs ys)) ∧ Sd (Keeps NoB w wr) ∧ Sd (Fresh w (.slice A ys.length c)))
        case atStart => exact ⟨0, c4, bs, A4, rfl, rfl, by omega, rfl, by omega, ⟨by simp [putL]⟩, HO4', HK4', HF4'⟩
        case round =>
          obtain ⟨k, c, ys, A, hk, rfl, hk1, rfl, hyl, HY, HO, HK, HF⟩ := hrel
          clear HO4' HK4' HF4'
          by_cases hlt : k < ns.length
          · have hq : decide (k < ns.length) = true := by simpa using hlt
            obtain ⟨b1, o1, rfl, hc⟩ := H1.o k (by rw [u64s_len]; exact hlt)
            have hc2 : wr.cell? ⟨b1, o1 + k, none⟩ = some (.int .u64 (ns[k] : Nat)) := by rw [HK.o.cell hc (fun f => f)]; simp [u64s]
            have HN1 := Sd.mk (HN.o _ (List.getElem_mem hlt))
            have htk : Sd (putL (ns.take (k + 1)) = putL (ns.take k) ++ put1 ns[k]) := ⟨by rw [List.take_succ_eq_append_getElem hlt, putL_snoc]⟩
            have hsz : ys.length + 10 ≤ 140737488355328 := by omega
            clear hc
            generalize ns[k] = n0 at *
            have hp0 := put1_len10 n0 HN1.o
            go_wp2_with (go_at_call 14; go_must (refine (rput_any _ A c ys HO.o n0 HN1.o hsz).mono ?_); rintro e w' ⟨A2, c2, rfl, HO2, HK2, HG2⟩)
            go_roundg (gk - 1)
            case measure => omega
            case rel => exact ⟨k + 1, c2, ys ++ put1 n0, A2, by omega, by go_num, by omega, by rw [List.length_append], by simp; omega, ⟨by rw [htk.o, HY.o, List.append_assoc]⟩, ⟨HO2⟩, ⟨HK.o.fresh HF.o HK2⟩, ⟨HF.o.grew HK.o.size HG2⟩⟩
          · have hq : decide (k < ns.length) = false := by simpa using hlt
            have hke : k = ns.length := by omega
            subst hke
            have HY2 := Sd.mk (show ys = bs ++ putL ns by rw [HY.o, List.take_length])
            clear HY hk1 hk hlt
            have HC := Sd.mk (fun (w' : World) (h : Keeps NoB wr w') => conv_rd (P := Try.prog) w' 22 5 9 Try.underlying22 Try.underlying5 Try.underlying9 A ys c (HO.o.keeps h (fun _ _ f => f)).own.bts.rd.2.2.2.2.2)
            go_upto_region 13 with fail
            have HBV := Sd.mk (bvs_length bs)
            have HP : Sd (∀ A2 c2 w2, OwnV w2 5 (.slice A2 bs.length c2) (bvs bs) → Keeps NoB wr w2 → Fresh wr (.slice A2 bs.length c2) → Calls Try.prog 15 #[.slice A2 bs.length c2, .slice A1 ns.length c1] w2 fun e w' => ∃ A' c', e = .returned (.slice A' ys.length c') ∧ OwnV w' 5 (.slice A' ys.length c') (bvs ys) ∧ Keeps NoB wr w' ∧ Fresh wr (.slice A' ys.length c')) := ⟨fun A2 c2 w2 hO hK hF => by
              rw [HY2.o]
              exact (put_any w2 A2 c2 bs hO ns HN.o A1 c1 ((H1.o.keeps HK.o (fun _ _ _ _ f => f)).keeps hK (fun _ _ _ _ f => f)) (fun hp b o s he f => by
                obtain ⟨b1, o1, e1, hc1⟩ := H1.o 0 (by rw [u64s_len]; exact hp)
                rw [he] at e1
                cases e1
                have h1 := hF b f
                have h2 := World.block_lt_of_cell? w _ hc1
                have h3 := HK.o.size
                simp at h2
                omega) (by omega)).mono (fun e w' ⟨A', c', he, hO', hK', hG'⟩ => ⟨A', c', he, hO', hK.fresh hF hK', hF.grew hK.size hG'⟩)⟩
            go_cut [76] (fun sx wx => sx = .bool false ∧ Sd (Keeps NoB w wx))
            case first =>
              have hq0 := HC.o wr.drew (Keeps.refl NoB wr).drew
              have hq1 := HC.o (wr.alloc (.cells #[] 5)).drew ((Keeps.refl NoB wr).alloc _).drew
              have hq2 := HC.o (wr.drew.alloc (.cells #[] 5)) ((Keeps.refl NoB wr).drew.alloc _)
              go_region_law
                (first
                  | (refine step_app_any rfl _ _ 22 5 (.int .u8 0) 1 rfl Try.underlying22 infoU8' rfl _ [] rfl (own_lit wr.drew 5 [] (by simp)) A0 bs.length c0 (bvs bs) rfl HBV.o ((rd_vrd HB.o.rd.2.2.2.2.2).keeps (HK.o.drew.alloc _) (fun _ _ _ _ f => f)) (bvs_one bs) (show 0 + bs.length ≤ 9223372036854775807 by omega) (show (0 + bs.length) * 1 ≤ 140737488355328 by omega) ?_
                     intro A5 c5 w5 HO5 HK5 HG5
                     simp only [List.length_nil, Nat.zero_add, List.nil_append] at HO5 HK5 HG5 ⊢
                     have HO5' := Sd.mk HO5
                     obtain ⟨hk5, hf5⟩ := lit_grew (w := wr) (Keeps.undrew1 HK5) (show Grew (wr.alloc (.cells #[] 5)) (.slice (some ⟨wr.heap.size, 0, none⟩) 0 0) (.slice A5 bs.length c5) from HG5)
                     replace hk5 := Sd.mk (show Keeps NoB wr w5 from hk5)
                     have hf5 := Sd.mk (show Fresh wr _ from hf5)
                     have hq5 := HC.o _ hk5.o
                     clear HO5 HK5 HG5)
                  | (go_simp; go_at_call 15
                     refine (HP.o _ _ _ HO5'.o hk5.o hf5.o).mono ?_
                     rintro e w6 ⟨A6, c6, rfl, HO6, hk6, hf6⟩
                     have hcv6 := conv_rd (P := Try.prog) w6 22 5 9 Try.underlying22 Try.underlying5 Try.underlying9 A6 _ c6 HO6.own.bts.rd.2.2.2.2.2
                     replace hk6 := Sd.mk hk6
                     have hq6 := HC.o _ hk6.o
                     clear HO6 hf6))
              all_goals (go_wp2_with fail; go_meet; exact ⟨rfl, ⟨HK.o.then hk6.o⟩⟩)
            obtain ⟨rfl, HK6⟩ := hcut
            obtain ⟨w6, hw6⟩ : ∃ w6, w6 = wc := ⟨_, rfl⟩
            subst hw6
            clear HP HC HO HF HK HY2 hyl hq
            go_wp2_with (at_builtin; go_must (refine app_any rfl _ _ 22 5 (.int .u8 0) 1 rfl Try.underlying22 infoU8' rfl _ [] rfl (own_lit w6 5 [] (by simp)) A0 bs.length c0 (bvs bs) rfl HBV.o ((rd_vrd HB.o.rd.2.2.2.2.2).keeps (HK6.o.alloc _) (fun _ _ _ _ f => f)) (bvs_one bs) (show 0 + bs.length ≤ 9223372036854775807 by omega) (show (0 + bs.length) * 1 ≤ 140737488355328 by omega) ?_))
            intro A4 c4 w4 HO4 HK4 HG4
            have HO4' := Sd.mk HO4
            obtain ⟨hk4, hf4⟩ := lit_grew HK4 HG4
            have HK4' := Sd.mk (HK6.o.then hk4)
            have HF4' : Sd (Fresh w (.slice A4 bs.length c4)) := ⟨fun k hk => Nat.le_trans HK6.o.size (hf4 k hk)⟩
            clear hk4 hf4 HO4 HK4 HG4 HBV HK6
            go_wp2_with fail
            go_loopg [11, 13] 61 (fun gk v i wr => ∃ (k c : Nat) (ys : List UInt8) (A : Option Addr), gk + k = 61 ∧ i = .int .i64 k ∧ k ≤ is.length ∧ v = .slice A ys.length c ∧ ys.length ≤ bs.length + 10 * k ∧ Sd (ys = bs ++ putI (is.take k)) ∧ Sd (OwnV wr 5 (.slice A ys.length c) (bvs ys)) ∧ Sd (Keeps NoB w wr) ∧ Sd (Fresh w (.slice A ys.length c)))
            case atStart => exact ⟨0, c4, bs, A4, rfl, rfl, by omega, rfl, by omega, ⟨by simp [putL, putI]⟩, HO4', HK4', HF4'⟩
            case round =>
              obtain ⟨k, c, ys, A, hk, rfl, hk1, rfl, hyl, HY, HO, HK, HF⟩ := hrel
              clear HO4' HK4' HF4'
              by_cases hlt : k < is.length
              · have hq : decide (k < is.length) = true := by simpa using hlt
                obtain ⟨b1, o1, rfl, hc⟩ := H2.o k (by rw [i64s_len]; exact hlt)
                have hc2 : wr.cell? ⟨b1, o1 + k, none⟩ = some (.int .i64 is[k]) := by rw [HK.o.cell hc (fun f => f)]; simp [i64s]
                have HN1 := Sd.mk (HI.o _ (List.getElem_mem hlt))
                have htk : Sd (putI (is.take (k + 1)) = putI (is.take k) ++ put1 (zig is[k])) := ⟨by rw [List.take_succ_eq_append_getElem hlt, putI_snoc]⟩
                have hsz : ys.length + 10 ≤ 140737488355328 := by omega
                clear hc
                generalize is[k] = n0 at *
                have hp0 := put1_len10 (zig n0) (zig_lt n0 HN1.o.1 HN1.o.2)
                go_wp2_with (go_at_call 16; go_must (refine (rputint_any _ A c ys HO.o n0 HN1.o.1 HN1.o.2 hsz).mono ?_); rintro e w' ⟨A2, c2, rfl, HO2, HK2, HG2⟩)
                go_roundg (gk - 1)
                case measure => omega
                case rel => exact ⟨k + 1, c2, ys ++ put1 (zig n0), A2, by omega, by go_num, by omega, by rw [List.length_append], by simp; omega, ⟨by rw [htk.o, HY.o, List.append_assoc]⟩, ⟨HO2⟩, ⟨HK.o.fresh HF.o HK2⟩, ⟨HF.o.grew HK.o.size HG2⟩⟩
              · have hq : decide (k < is.length) = false := by simpa using hlt
                have hke : k = is.length := by omega
                subst hke
                have HY2 := Sd.mk (show ys = bs ++ putI is by rw [HY.o, List.take_length])
                clear HY hk1 hk hlt
                have HC := Sd.mk (fun (w' : World) (h : Keeps NoB wr w') => conv_rd (P := Try.prog) w' 22 5 9 Try.underlying22 Try.underlying5 Try.underlying9 A ys c (HO.o.keeps h (fun _ _ f => f)).own.bts.rd.2.2.2.2.2)
                go_upto_region 20 with fail
                have HBV := Sd.mk (bvs_length bs)
                have HP : Sd (∀ A2 c2 w2, OwnV w2 5 (.slice A2 bs.length c2) (bvs bs) → Keeps NoB wr w2 → Fresh wr (.slice A2 bs.length c2) → Calls Try.prog 17 #[.slice A2 bs.length c2, .slice A2_0 is.length c2_0] w2 fun e w' => ∃ A' c', e = .returned (.slice A' ys.length c') ∧ OwnV w' 5 (.slice A' ys.length c') (bvs ys) ∧ Keeps NoB wr w' ∧ Fresh wr (.slice A' ys.length c')) := ⟨fun A2 c2 w2 hO hK hF => by
                  rw [HY2.o]
                  exact (putint_any w2 A2 c2 bs hO is HI.o A2_0 c2_0 ((H2.o.keeps HK.o (fun _ _ _ _ f => f)).keeps hK (fun _ _ _ _ f => f)) (fun hp b o s he f => by
                    obtain ⟨b1, o1, e1, hc1⟩ := H2.o 0 (by rw [i64s_len]; exact hp)
                    rw [he] at e1
                    cases e1
                    have h1 := hF b f
                    have h2 := World.block_lt_of_cell? w _ hc1
                    have h3 := HK.o.size
                    simp at h2
                    omega) (by omega)).mono (fun e w' ⟨A', c', he, hO', hK', hG'⟩ => ⟨A', c', he, hO', hK.fresh hF hK', hF.grew hK.size hG'⟩)⟩
                go_cut [100] (fun sx wx => sx = .bool false ∧ Sd (Keeps NoB w wx))
                case first =>
                  have hq0 := HC.o wr.drew (Keeps.refl NoB wr).drew
                  have hq1 := HC.o (wr.alloc (.cells #[] 5)).drew ((Keeps.refl NoB wr).alloc _).drew
                  have hq2 := HC.o (wr.drew.alloc (.cells #[] 5)) ((Keeps.refl NoB wr).drew.alloc _)
                  go_region_law
                    (first
                      | (refine step_app_any rfl _ _ 22 5 (.int .u8 0) 1 rfl Try.underlying22 infoU8' rfl _ [] rfl (own_lit wr.drew 5 [] (by simp)) A0 bs.length c0 (bvs bs) rfl HBV.o ((rd_vrd HB.o.rd.2.2.2.2.2).keeps (HK.o.drew.alloc _) (fun _ _ _ _ f => f)) (bvs_one bs) (show 0 + bs.length ≤ 9223372036854775807 by omega) (show (0 + bs.length) * 1 ≤ 140737488355328 by omega) ?_
                         intro A5 c5 w5 HO5 HK5 HG5
                         simp only [List.length_nil, Nat.zero_add, List.nil_append] at HO5 HK5 HG5 ⊢
                         have HO5' := Sd.mk HO5
                         obtain ⟨hk5, hf5⟩ := lit_grew (w := wr) (Keeps.undrew1 HK5) (show Grew (wr.alloc (.cells #[] 5)) (.slice (some ⟨wr.heap.size, 0, none⟩) 0 0) (.slice A5 bs.length c5) from HG5)
                         replace hk5 := Sd.mk (show Keeps NoB wr w5 from hk5)
                         have hf5 := Sd.mk (show Fresh wr _ from hf5)
                         have hq5 := HC.o _ hk5.o
                         clear HO5 HK5 HG5)
                      | (go_simp; go_at_call 17
                         refine (HP.o _ _ _ HO5'.o hk5.o hf5.o).mono ?_
                         rintro e w6 ⟨A6, c6, rfl, HO6, hk6, hf6⟩
                         have hcv6 := conv_rd (P := Try.prog) w6 22 5 9 Try.underlying22 Try.underlying5 Try.underlying9 A6 _ c6 HO6.own.bts.rd.2.2.2.2.2
                         replace hk6 := Sd.mk hk6
                         have hq6 := HC.o _ hk6.o
                         clear HO6 hf6))
                  all_goals (go_wp2_with fail; go_meet; exact ⟨rfl, ⟨HK.o.then hk6.o⟩⟩)
                obtain ⟨rfl, HK6⟩ := hcut
                obtain ⟨w6, hw6⟩ : ∃ w6, w6 = wc := ⟨_, rfl⟩
                subst hw6
                clear HP HC HO HF HK HY2 hyl hq
                go_wp2_with (at_builtin; go_must (refine app_any rfl _ _ 22 5 (.int .u8 0) 1 rfl Try.underlying22 infoU8' rfl _ [] rfl (own_lit w6 5 [] (by simp)) A0 bs.length c0 (bvs bs) rfl HBV.o ((rd_vrd HB.o.rd.2.2.2.2.2).keeps (HK6.o.alloc _) (fun _ _ _ _ f => f)) (bvs_one bs) (show 0 + bs.length ≤ 9223372036854775807 by omega) (show (0 + bs.length) * 1 ≤ 140737488355328 by omega) ?_))
                intro A4 c4 w4 HO4 HK4 HG4
                have HO4' := Sd.mk HO4
                obtain ⟨hk4, hf4⟩ := lit_grew HK4 HG4
                have HK4' := Sd.mk (HK6.o.then hk4)
                have HF4' : Sd (Fresh w (.slice A4 bs.length c4)) := ⟨fun k hk => Nat.le_trans HK6.o.size (hf4 k hk)⟩
                clear hk4 hf4 HO4 HK4 HG4 HBV HK6
                go_wp2_with fail
                go_loopg [11, 14] 61 (fun gk v i wr => ∃ (k c : Nat) (ys : List UInt8) (A : Option Addr), gk + k = 61 ∧ i = .int .i64 k ∧ k ≤ ls.length ∧ v = .slice A ys.length c ∧ ys.length ≤ bs.length + 10 * k + sumLen (ls.take k) ∧ Sd (ys = bs ++ putT (ls.take k)) ∧ Sd (OwnV wr 5 (.slice A ys.length c) (bvs ys)) ∧ Sd (Keeps NoB w wr) ∧ Sd (Fresh w (.slice A ys.length c)))
                case atStart => exact ⟨0, c4, bs, A4, rfl, rfl, by omega, rfl, by omega, ⟨by simp [putT]⟩, HO4', HK4', HF4'⟩
                case round =>
                  obtain ⟨k, c, ys, A, hk, rfl, hk1, rfl, hyl, HY, HO, HK, HF⟩ := hrel
                  clear HO4' HK4' HF4'
                  by_cases hlt : k < ls.length
                  · have hq : decide (k < ls.length) = true := by simpa using hlt
                    obtain ⟨b1, o1, rfl, hc⟩ := H3.o k (by rw [strs_len]; exact hlt)
                    have hc2 : wr.cell? ⟨b1, o1 + k, none⟩ = some (.string (sOf ls[k])) := by rw [HK.o.cell hc (fun f => f)]; simp [strs]
                    have hsum := sumLen_take_le ls k hlt
                    have hts : sumLen (ls.take (k + 1)) = sumLen (ls.take k) + ls[k].length := by rw [List.take_succ_eq_append_getElem hlt, sumLen_snoc]
                    have htk : Sd (putT (ls.take (k + 1)) = putT (ls.take k) ++ (put1 ls[k].length ++ ls[k])) := ⟨by rw [List.take_succ_eq_append_getElem hlt, putT_snoc]⟩
                    have hslx := hsl
                    clear hc
                    generalize ls[k] = s0 at *
                    obtain ⟨S0, hS0⟩ : ∃ S0, S0 = sOf s0 := ⟨_, rfl⟩
                    rw [← hS0] at hc2
                    have hSs : S0.size = s0.length := by rw [hS0, sOf_size]
                    have hSd : S0.data.toList = s0 := by rw [hS0]; rfl
                    have HD := Sd.mk hSd
                    have hp0 := put1_len10 S0.size (by have := hsl.o; omega)
                    have hsz : ys.length + 10 + S0.size ≤ 140737488355328 := by have := hsl.o; omega
                    rw [← hSs, ← hSd] at htk
                    have HSs := Sd.mk hSs
                    clear hS0 hSd hSs
                    go_wp2_with (go_at_call 18; go_must (refine (rputtext_any _ A c ys HO.o S0 hsz).mono ?_); rintro e w' ⟨A2, c2, rfl, HO2, HK2, HG2⟩)
                    go_roundg (gk - 1)
                    case measure => omega
                    case rel => exact ⟨k + 1, c2, ys ++ (put1 S0.size ++ S0.data.toList), A2, by omega, by go_num, by omega, by simp only [List.length_append, Array.length_toList]; rfl, by have := HSs.o; simp only [List.length_append, HD.o]; omega, ⟨by rw [htk.o, HY.o, List.append_assoc]⟩, ⟨HO2⟩, ⟨HK.o.fresh HF.o HK2⟩, ⟨HF.o.grew HK.o.size HG2⟩⟩
                  · have hq : decide (k < ls.length) = false := by simpa using hlt
                    have hke : k = ls.length := by omega
                    subst hke
                    have HY2 := Sd.mk (show ys = bs ++ putT ls by rw [HY.o, List.take_length])
                    clear HY hk1 hk hlt
                    have HC := Sd.mk (fun (w' : World) (h : Keeps NoB wr w') => conv_rd (P := Try.prog) w' 22 5 9 Try.underlying22 Try.underlying5 Try.underlying9 A ys c (HO.o.keeps h (fun _ _ f => f)).own.bts.rd.2.2.2.2.2)
                    go_upto_region 27 with fail
                    have HBV := Sd.mk (bvs_length bs)
                    have HP : Sd (∀ A2 c2 w2, OwnV w2 5 (.slice A2 bs.length c2) (bvs bs) → Keeps NoB wr w2 → Fresh wr (.slice A2 bs.length c2) → Calls Try.prog 19 #[.slice A2 bs.length c2, .slice A3 ls.length c3] w2 fun e w' => ∃ A' c', e = .returned (.slice A' ys.length c') ∧ OwnV w' 5 (.slice A' ys.length c') (bvs ys) ∧ Keeps NoB wr w' ∧ Fresh wr (.slice A' ys.length c')) := ⟨fun A2 c2 w2 hO hK hF => by
                      rw [HY2.o]
                      exact (puttext_any w2 A2 c2 bs hO ls A3 c3 ((H3.o.keeps HK.o (fun _ _ _ _ f => f)).keeps hK (fun _ _ _ _ f => f)) (fun hp b o s he f => by
                        obtain ⟨b1, o1, e1, hc1⟩ := H3.o 0 (by rw [strs_len]; exact hp)
                        rw [he] at e1
                        cases e1
                        have h1 := hF b f
                        have h2 := World.block_lt_of_cell? w _ hc1
                        have h3 := HK.o.size
                        simp at h2
                        omega) (by have := hsl.o; omega)).mono (fun e w' ⟨A', c', he, hO', hK', hG'⟩ => ⟨A', c', he, hO', hK.fresh hF hK', hF.grew hK.size hG'⟩)⟩
                    have hq0 := HC.o wr.drew (Keeps.refl NoB wr).drew
                    have hq1 := HC.o (wr.alloc (.cells #[] 5)).drew ((Keeps.refl NoB wr).alloc _).drew
                    have hq2 := HC.o (wr.drew.alloc (.cells #[] 5)) ((Keeps.refl NoB wr).drew.alloc _)
                    go_region_law
                      (first
                        | (refine step_app_any rfl _ _ 22 5 (.int .u8 0) 1 rfl Try.underlying22 infoU8' rfl _ [] rfl (own_lit wr.drew 5 [] (by simp)) A0 bs.length c0 (bvs bs) rfl HBV.o ((rd_vrd HB.o.rd.2.2.2.2.2).keeps (HK.o.drew.alloc _) (fun _ _ _ _ f => f)) (bvs_one bs) (show 0 + bs.length ≤ 9223372036854775807 by omega) (show (0 + bs.length) * 1 ≤ 140737488355328 by omega) ?_
                           intro A5 c5 w5 HO5 HK5 HG5
                           simp only [List.length_nil, Nat.zero_add, List.nil_append] at HO5 HK5 HG5 ⊢
                           have HO5' := Sd.mk HO5
                           obtain ⟨hk5, hf5⟩ := lit_grew (w := wr) (Keeps.undrew1 HK5) (show Grew (wr.alloc (.cells #[] 5)) (.slice (some ⟨wr.heap.size, 0, none⟩) 0 0) (.slice A5 bs.length c5) from HG5)
                           replace hk5 := Sd.mk (show Keeps NoB wr w5 from hk5)
                           have hf5 := Sd.mk (show Fresh wr _ from hf5)
                           have hq5 := HC.o _ hk5.o
                           clear HO5 HK5 HG5)
                        | (go_simp; go_at_call 19
                           refine (HP.o _ _ _ HO5'.o hk5.o hf5.o).mono ?_
                           rintro e w6 ⟨A6, c6, rfl, HO6, hk6, hf6⟩
                           have hcv6 := conv_rd (P := Try.prog) w6 22 5 9 Try.underlying22 Try.underlying5 Try.underlying9 A6 _ c6 HO6.own.bts.rd.2.2.2.2.2
                           replace hk6 := Sd.mk hk6
                           have hq6 := HC.o _ hk6.o
                           clear HO6 hf6)
                        | (go_simp; go_at_call 12
                           refine (live_any _).mono ?_
                           rintro e w7 ⟨rfl, hk7⟩
                           replace hk7 := Sd.mk (hk6.o.then hk7)
                           have hq7 := HC.o _ hk7.o))
                    all_goals (clear HP HC HO HF HY2 hyl hq; go_wp2_with fail; go_ret; exact ⟨rfl, HK.o.then hk7.o⟩)
end Go.Proofs.Ytlnmjeiiagkipaa.octetPuts
