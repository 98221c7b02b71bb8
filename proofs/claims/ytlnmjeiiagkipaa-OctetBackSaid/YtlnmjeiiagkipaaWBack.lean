/- OctetBack: the walk. -/
import Derived.Test.YtlnmjeiiagkipaaArgs
import Derived.Test.YtlnmjeiiagkipaaOctM
import Derived.Test.YtlnmjeiiagkipaaOctR
import Derived.Deep.RegionHeld3
import Derived.Deep.RegionLaw
import Derived.Deep.DeepCutAuto
namespace Go.Proofs.Ytlnmjeiiagkipaa.octetBack
open Go.RowKit
theorem putT_len : ∀ (l : List (List UInt8)), sumLen l ≤ 20000 → (putT l).length ≤ 10 * l.length + sumLen l
  | [], _ => by simp [putT, sumLen]
  | s :: l, h => by
    have e1 : sumLen (s :: l) = s.length + sumLen l := by simp [sumLen]
    have h1 := put1_len10 s.length (by omega)
    have h2 := putT_len l (by omega)
    simp only [putT, put1T, List.flatMap_cons, List.length_append, List.length_cons] at *
    omega
theorem off_vrd {w : World} {A : Option Addr} {vs : List Value} {v : Value} (h : VRd w A vs) (hF : Fresh w v) (hp : 0 < vs.length) : ∀ b o s, A = some ⟨b, o, s⟩ → ¬ ownB v b := fun b o s e f => by
  obtain ⟨b1, o1, e1, hc⟩ := h 0 hp
  rw [e] at e1
  cases e1
  have h1 := hF b f
  have h2 := World.block_lt_of_cell? w _ hc
  simp at h2
  omega
theorem split_at {α : Type} (f : α → List UInt8) (l : List α) (k : Nat) (h : k < l.length) : l.flatMap f = (l.take k).flatMap f ++ (f l[k] ++ (l.drop (k + 1)).flatMap f) := by
  have e : l = l.take k ++ l[k] :: l.drop (k + 1) := by rw [← List.drop_eq_getElem_cons h, List.take_append_drop]
  exact (congrArg (List.flatMap f) e).trans (by rw [List.flatMap_append, List.flatMap_cons])
theorem _root_.Go.Proofs.Ytlnmjeiiagkipaa.IsRd.drew {w : World} {b : Nat} {s : RSt} {A : Option Addr} {c : Nat} (h : IsRd w b s A c) : IsRd w.drew b s A c := ⟨h.blk, h.bts, h.off, h.pos, h.spot, h.lo, h.hi⟩
def blob (ns : List Nat) (is : List Int) (ls : List (List UInt8)) : List UInt8 := (putL ns ++ putI is) ++ putT ls
theorem off_fresh {b1 m k c : Nat} {A : Option Addr} (h : ∀ k, (Value.slice A m c).ownBlock = some k → b1 < k) : OffR (OneB b1) (.slice A k c) := fun a n c' e _ f => by
  cases e
  have := h a.block rfl
  cases f
  exact Nat.lt_irrefl _ this

set_option maxHeartbeats 4000000 in
set_option maxRecDepth 100000 in
theorem walk (w : World) (A0 : Option Addr) (c0 : Nat) (bs : List UInt8) (hb : Bts w (.slice A0 bs.length c0) bs) (A1 : Option Addr) (c1 : Nat) (ns : List Nat) (h1 : VRd w A1 (u64s ns)) (hns : ∀ m ∈ ns, m < 18446744073709551616)
    (A2_0 : Option Addr) (c2_0 : Nat) (is : List Int) (h2 : VRd w A2_0 (i64s is)) (his : ∀ m ∈ is, -9223372036854775808 ≤ m ∧ m ≤ 9223372036854775807) (A3 : Option Addr) (c3 : Nat) (ls : List (List UInt8)) (h3 : VRd w A3 (strs ls)) (hls : ∀ s ∈ ls, s.length ≤ 140737488351232)
    (l0 : bs.length ≤ 9223372036854775807) (l1 : ns.length ≤ 9223372036854775807) (l2 : is.length ≤ 9223372036854775807) (l3 : ls.length ≤ 9223372036854775807) (hbl : bs.length ≤ 140737488351232) :
    Calls Try.prog 5 #[.slice A1 ns.length c1, .slice A2_0 is.length c2_0, .slice A3 ls.length c3, .slice A0 bs.length c0] w fun e w' => e = .returned (.bool true) ∧ Keeps NoB w w' := by
  have HB := Sd.mk hb
  have H1 := Sd.mk h1
  have HN := Sd.mk hns
  have H2 := Sd.mk h2
  have HI := Sd.mk his
  have H3 := Sd.mk h3
  have HL := Sd.mk hls
  clear hb h1 hns h2 his h3 hls
  go_enter Try.func5, Try.ntmps5
  go_wp2_with fail
  go_loopg [9, 10] 62 (fun gk n i wr => ∃ (k s : Nat), gk + k = 62 ∧ i = .int .i64 k ∧ k ≤ 61 ∧ k ≤ ls.length ∧ n = .int .i64 s ∧ s ≤ k * 140737488351232 ∧ Sd (s = sumLen (ls.take k)) ∧ Sd (w = wr))
  case atStart => exact ⟨0, 0, rfl, rfl, by omega, by omega, rfl, by omega, ⟨rfl⟩, ⟨rfl⟩⟩
  case round =>
    obtain ⟨k, s, hk, rfl, hk1, hkl, rfl, hs, hsum, ⟨rfl⟩⟩ := hrel
    by_cases hlt : k < ls.length ∧ k ≤ 60
    · obtain ⟨hlt, hle⟩ := hlt
      have hq : decide (k < ls.length) = true := by simpa using hlt
      have hq2 : decide ((k : Int) ≤ 60) = true := by simp; omega
      obtain ⟨b1, o1, rfl, hc⟩ := H3.o k (by rw [strs_len]; exact hlt)
      have hc2 : w.cell? ⟨b1, o1 + k, none⟩ = some (.string (sOf ls[k])) := by rw [hc]; simp [strs]
      have hsz := HL.o _ (List.getElem_mem hlt)
      have htk : Sd (sumLen (ls.take (k + 1)) = sumLen (ls.take k) + ls[k].length) := ⟨by rw [List.take_succ_eq_append_getElem hlt, sumLen_snoc]⟩
      clear hc
      have hss : (sOf ls[k]).size = ls[k].length := sOf_size _
      generalize sOf ls[k] = S0 at *
      have HSS := Sd.mk hss
      rw [← hss] at hsz
      clear hss
      go_wp2
      go_roundg (gk - 1)
      case measure => omega
      case rel => exact ⟨k + 1, s + S0.size, by omega, by go_num, by omega, by omega, by go_num, by omega, ⟨by rw [htk.o, ← hsum.o, HSS.o]⟩, ⟨rfl⟩⟩
    · have hfin : Sd (ls.length ≤ 60 → s = sumLen ls) := ⟨fun h => by rw [hsum.o, List.take_of_length_le (by omega)]⟩
      by_cases hk2 : k < ls.length
      · have hq : decide (k < ls.length) = true := by simpa using hk2
        have hq2 : decide ((k : Int) ≤ 60) = false := by simp; omega
        have hbig : 60 < ls.length := by omega
        clear hlt
        by_cases g1 : 20000 < bs.length + s
        · go_wp2_with (go_at_call 12; refine (live_any _).mono ?_; rintro e w' ⟨rfl, hk'⟩)
          go_ret
          exact ⟨rfl, hk'⟩
        by_cases g2 : 60 < ns.length
        · go_wp2_with (go_at_call 12; refine (live_any _).mono ?_; rintro e w' ⟨rfl, hk'⟩)
          go_ret
          exact ⟨rfl, hk'⟩
        by_cases g3 : 60 < is.length
        · go_wp2_with (go_at_call 12; refine (live_any _).mono ?_; rintro e w' ⟨rfl, hk'⟩)
          go_ret
          exact ⟨rfl, hk'⟩
        · go_wp2_with (go_at_call 12; refine (live_any _).mono ?_; rintro e w' ⟨rfl, hk'⟩)
          go_ret
          exact ⟨rfl, hk'⟩
      · have hq : decide (k < ls.length) = false := by simpa using hk2
        have hke : k = ls.length := by omega
        by_cases g1 : 20000 < bs.length + s
        · clear hke
          go_wp2_with (go_at_call 12; refine (live_any _).mono ?_; rintro e w' ⟨rfl, hk'⟩)
          go_ret
          exact ⟨rfl, hk'⟩
        by_cases g2 : 60 < ns.length
        · clear hke
          go_wp2_with (go_at_call 12; refine (live_any _).mono ?_; rintro e w' ⟨rfl, hk'⟩)
          go_ret
          exact ⟨rfl, hk'⟩
        by_cases g3 : 60 < is.length
        · clear hke
          go_wp2_with (go_at_call 12; refine (live_any _).mono ?_; rintro e w' ⟨rfl, hk'⟩)
          go_ret
          exact ⟨rfl, hk'⟩
        by_cases g4 : 60 < ls.length
        · clear hke
          go_wp2_with (go_at_call 12; refine (live_any _).mono ?_; rintro e w' ⟨rfl, hk'⟩)
          go_ret
          exact ⟨rfl, hk'⟩
        have hsl : Sd (s = sumLen ls) := ⟨hfin.o (by omega)⟩
        have hs20 : sumLen ls ≤ 20000 := by have := hsl.o; omega
        have hlL := putL_len ns HN.o
        have hlI := putI_len is HI.o
        have hlT := putT_len ls hs20
        clear hke hfin hlt hk2 hsum hs
        have HLL := Sd.mk hlL
        have HLI := Sd.mk hlI
        have HLT := Sd.mk hlT
        have HS2 := Sd.mk hs20
        clear hlL hlI hlT hs20
        go_wp2_with (go_at_call 15; go_must (refine (put_any _ none 0 [] (Own.nil _ 0).v ns HN.o A1 c1 H1.o (by intro _ b o s _ f; simp [ownB, Value.ownBlock] at f) (by simp; omega)).mono ?_))
        rw [List.nil_append]
        rintro e w1 ⟨R1, d1, rfl, hO1, hK1, hG1⟩
        obtain ⟨P1, hP1⟩ : ∃ P1, P1 = putL ns := ⟨_, rfl⟩
        rw [← hP1] at hO1 hG1 ⊢
        have hl1 : P1.length ≤ 600 := by have := HLL.o; rw [hP1]; omega
        have HP1 := Sd.mk hP1
        have HO1 := Sd.mk hO1
        have HK1 : Sd (Keeps NoB w w1) := ⟨hK1.mono (fun i _ f => by simp [ownB, Value.ownBlock] at f)⟩
        have HF1 : Sd (Fresh w (.slice R1 P1.length d1)) := ⟨fun k hk => by
          rcases hG1 k hk with h | h
          · simp [Value.ownBlock] at h
          · exact h⟩
        clear hO1 hK1 hG1 hP1
        go_wp2_with (go_at_call 17; go_must (refine (putint_any _ R1 d1 P1 HO1.o is HI.o A2_0 c2_0 (H2.o.keeps HK1.o (fun _ _ _ _ f => f)) (fun hp => off_vrd H2.o HF1.o (by rw [i64s_len]; exact hp)) (by omega)).mono ?_))
        rintro e w2 ⟨R2, d2, rfl, hO2, hK2, hG2⟩
        obtain ⟨P2, hP2⟩ : ∃ P2, P2 = P1 ++ putI is := ⟨_, rfl⟩
        rw [← hP2] at hO2 hG2 ⊢
        have hl2 : P2.length ≤ 1200 := by have := HLI.o; rw [hP2, List.length_append]; omega
        have HP2 := Sd.mk hP2
        have HO2 := Sd.mk hO2
        have HK2 : Sd (Keeps NoB w w2) := ⟨HK1.o.fresh HF1.o hK2⟩
        have HF2 : Sd (Fresh w (.slice R2 P2.length d2)) := ⟨HF1.o.grew HK1.o.size hG2⟩
        clear hO2 hK2 hG2 hP2 HO1 HK1 HF1
        go_wp2_with (go_at_call 19; go_must (refine (puttext_any _ R2 d2 P2 HO2.o ls A3 c3 (H3.o.keeps HK2.o (fun _ _ _ _ f => f)) (fun hp => off_vrd H3.o HF2.o (by rw [strs_len]; exact hp)) (by have := HS2.o; omega)).mono ?_))
        rintro e w3 ⟨R3, d3, rfl, hO3, hK3, hG3⟩
        obtain ⟨P3, hP3⟩ : ∃ P3, P3 = P2 ++ putT ls := ⟨_, rfl⟩
        rw [← hP3] at hO3 hG3 ⊢
        have hl3 : P3.length ≤ 22000 := by have := HLT.o; have := HS2.o; rw [hP3, List.length_append]; omega
        have HP3 := Sd.mk hP3
        have HO3 := Sd.mk hO3
        have HK3 : Sd (Keeps NoB w w3) := ⟨HK2.o.fresh HF2.o hK3⟩
        clear hO3 hK3 hG3 hP3 HO2 HK2 HF2
        go_wp2_with (go_at_call 20; go_must (refine (new_any _ R3 _ d3 P3 HO3.o.own.bts (by omega)).mono ?_))
        rintro e w4 ⟨b1, R4, d4, rfl, hI4, hB4, hb4, _⟩
        have HI4 := Sd.mk hI4
        have hb4' : w.heap.size ≤ b1 := by have := HK3.o.size; omega
        have hb4s : b1 < w4.heap.size := (Array.getElem?_eq_some_iff.1 hI4.blk).1
        have HK4 : Sd (Keeps NoB w w4) := ⟨HK3.o.then (Keeps.of_below hB4 _)⟩
        clear hI4 hB4 HO3 HK3 hb4
        go_wp2_with (go_at_call 20; go_must (refine (new_any _ A0 _ c0 bs (HB.o.keeps HK4.o (fun _ _ _ _ _ f => f)) (by omega)).mono ?_))
        rintro e w5 ⟨b2, R5, d5, rfl, hI5, hB5, hb5, hof5⟩
        have HI5 := Sd.mk hI5
        have hbb : b1 < b2 := by omega
        have HI1 : Sd (IsRd w5 b1 ⟨P3, 0, 0, 0⟩ R4 d4) := ⟨HI4.o.keeps (Keeps.of_below hB5 NoB) (fun f => f) (fun _ _ _ _ _ f => f)⟩
        have HK5 : Sd (Keeps NoB w w5) := ⟨HK4.o.then (Keeps.of_below hB5 _)⟩
        have HOF : Sd (OffR (OneB b1) (.slice R5 bs.length d5)) := ⟨off_fresh (fun k hk => Nat.lt_of_lt_of_le hb4s (hof5 k hk))⟩
        have HOF4 : Sd (OffR (OneB b2) (.slice R4 P3.length d4)) := ⟨fun a n c e hc f => by
          cases e
          have := (HI4.o.bts.rd.2.2.2.2.1 hc a rfl).2
          cases f
          omega⟩
        clear hI5 hB5 HI4 HK4 hof5 hb5 hb4s
        have hk5 := HK5
        go_wp2_with fail
        go_loopg [13] 61 (fun gk i wr => ∃ k : Nat, gk + k = 61 ∧ i = .int .i64 k ∧ k ≤ ns.length ∧ Sd (IsRd wr b1 ⟨P3, (putL (ns.take k)).length, 0, 0⟩ R4 d4) ∧ Sd (IsRd wr b2 ⟨bs, 0, 0, 0⟩ R5 d5) ∧ Sd (Keeps NoB w wr))
        case atStart => exact ⟨0, rfl, rfl, by omega, HI1, HI5, HK5⟩
        case round =>
          obtain ⟨k, hk, rfl, hk1, HR, HQ, HK⟩ := hrel
          clear HI1 HI5 HK5 hk5
          by_cases hlt : k < ns.length
          · have hq : decide (k < ns.length) = true := by simpa using hlt
            obtain ⟨b0, o0, rfl, hc⟩ := H1.o k (by rw [u64s_len]; exact hlt)
            have hc2 : wr.cell? ⟨b0, o0 + k, none⟩ = some (.int .u64 (ns[k] : Nat)) := by rw [HK.o.cell hc (fun f => f)]; simp [u64s]
            have hb0 : b0 < b1 := by have := World.block_lt_of_cell? w _ hc; simp at this; omega
            have htk : Sd ((putL (ns.take (k + 1))).length = (putL (ns.take k)).length + (put1 ns[k]).length) := ⟨by rw [List.take_succ_eq_append_getElem hlt, putL_snoc, List.length_append]⟩
            have hnum := RSt.num_put (s := ⟨P3, (putL (ns.take k)).length, 0, 0⟩) (pre := putL (ns.take k)) (post := putL (ns.drop (k + 1)) ++ (putI is ++ putT ls)) (n := ns[k]) (by
              have := split_at put1 ns k hlt
              rw [HP3.o, HP2.o, HP1.o]
              unfold putL at *
              rw [this]
              simp only [List.append_assoc]) rfl rfl (HN.o _ (List.getElem_mem hlt))
            have hC := num_some wr.drew b1 _ R4 d4 HR.o.drew
            rw [hnum] at hC
            dsimp only at hC
            have HC := Sd.mk hC
            have i0 : (0 : Int) ≤ (k : Int) := by omega
            have i1 : (k : Int) < (ns.length : Int) := by omega
            clear hC hnum hc
            generalize ns[k] = n0 at *
            go_wp2_with fail
            go_region_held3 (fun w' => w'.cell? ⟨b0, o0 + k, none⟩ = some (.int .u64 (n0 : Nat))) (first | assumption | exact hc6)
              (first
                | (go_at_call 21
                   refine HC.o.mono ?_
                   rintro e w6 ⟨rfl, hI6, hK6⟩
                   have hc6 : w6.cell? ⟨b0, o0 + k, none⟩ = some (.int .u64 (n0 : Nat)) := hK6.cell (show wr.drew.cell? _ = some _ from hc2) (fun f => by cases f; exact Nat.lt_irrefl _ hb0)
                   have HI6 := Sd.mk hI6
                   have HK6 := Sd.mk hK6
                   clear hI6 hK6))
            clear hc2
            go_wp2_with fail
            go_roundg (gk - 1)
            case measure => omega
            case rel => exact ⟨k + 1, by omega, by go_num, by omega, ⟨by rw [htk.o]; exact HI6.o⟩, ⟨HQ.o.drew.keeps HK6.o (fun f => by cases f; exact Nat.lt_irrefl _ hbb) HOF.o⟩, ⟨HK.o.drew.trans HK6.o (fun _ _ f => f) (fun i hi f => by cases f; omega)⟩⟩
          · have hq : decide (k < ns.length) = false := by simpa using hlt
            have hke : k = ns.length := by omega
            subst hke
            rw [List.take_length] at HR
            clear hk1 hk hlt
            go_wp2_with fail
            go_loopg [14] 61 (fun gk i wr => ∃ k : Nat, gk + k = 61 ∧ i = .int .i64 k ∧ k ≤ is.length ∧ Sd (IsRd wr b1 ⟨P3, (putL ns ++ putI (is.take k)).length, 0, 0⟩ R4 d4) ∧ Sd (IsRd wr b2 ⟨bs, 0, 0, 0⟩ R5 d5) ∧ Sd (Keeps NoB w wr))
            case atStart => exact ⟨0, rfl, rfl, by omega, ⟨by simpa [putI, putL] using HR.o⟩, HQ, HK⟩
            case round =>
              clear HR HQ HK hq
              obtain ⟨k, hk, rfl, hk1, HR, HQ, HK⟩ := hrel
              by_cases hlt : k < is.length
              · have hq : decide (k < is.length) = true := by simpa using hlt
                obtain ⟨b0, o0, rfl, hc⟩ := H2.o k (by rw [i64s_len]; exact hlt)
                have hc2 : wr.cell? ⟨b0, o0 + k, none⟩ = some (.int .i64 is[k]) := by rw [HK.o.cell hc (fun f => f)]; simp [i64s]
                have hb0 : b0 < b1 := by have := World.block_lt_of_cell? w _ hc; simp at this; omega
                have htk : Sd ((putL ns ++ putI (is.take (k + 1))).length = (putL ns ++ putI (is.take k)).length + (put1 (zig is[k])).length) := ⟨by rw [List.take_succ_eq_append_getElem hlt, putI_snoc]; simp only [List.length_append]; omega⟩
                have hm := HI.o _ (List.getElem_mem hlt)
                have hnum := RSt.num_put (s := ⟨P3, (putL ns ++ putI (is.take k)).length, 0, 0⟩) (pre := putL ns ++ putI (is.take k)) (post := putI (is.drop (k + 1)) ++ putT ls) (n := zig is[k]) (by
                  have := split_at (fun m => put1 (zig m)) is k hlt
                  have e : ∀ l, putI l = l.flatMap (fun m => put1 (zig m)) := fun l => by unfold putI putL; rw [List.flatMap_map]
                  rw [HP3.o, HP2.o, HP1.o, e is, this, e, e]
                  simp only [List.append_assoc]) rfl rfl (zig_lt _ hm.1 hm.2)
                have hC := int_some wr.drew b1 _ R4 d4 HR.o.drew
                rw [hnum] at hC
                dsimp only at hC
                rw [zag_zig] at hC
                have HC := Sd.mk hC
                have i0 : (0 : Int) ≤ (k : Int) := by omega
                have i1 : (k : Int) < (is.length : Int) := by omega
                clear hC hnum hc hm
                generalize is[k] = n0 at *
                go_wp2_with fail
                go_region_held3 (fun w' => w'.cell? ⟨b0, o0 + k, none⟩ = some (.int .i64 n0)) (first | assumption | exact hc6)
                  (first
                    | (go_at_call 22
                       refine HC.o.mono ?_
                       rintro e w6 ⟨rfl, hI6, hK6⟩
                       have hc6 : w6.cell? ⟨b0, o0 + k, none⟩ = some (.int .i64 n0) := hK6.cell (show wr.drew.cell? _ = some _ from hc2) (fun f => by cases f; exact Nat.lt_irrefl _ hb0)
                       have HI6 := Sd.mk hI6
                       have HK6 := Sd.mk hK6
                       clear hI6 hK6))
                clear hc2
                go_wp2_with fail
                go_roundg (gk - 1)
                case measure => omega
                case rel => exact ⟨k + 1, by omega, by go_num, by omega, ⟨by rw [htk.o]; exact HI6.o⟩, ⟨HQ.o.drew.keeps HK6.o (fun f => by cases f; exact Nat.lt_irrefl _ hbb) HOF.o⟩, ⟨HK.o.drew.trans HK6.o (fun _ _ f => f) (fun i hi f => by cases f; omega)⟩⟩
              · have hq : decide (k < is.length) = false := by simpa using hlt
                have hke : k = is.length := by omega
                subst hke
                rw [List.take_length] at HR
                clear hk1 hk hlt
                go_wp2_with fail
                go_loopg [15] 61 (fun gk i wr => ∃ k : Nat, gk + k = 61 ∧ i = .int .i64 k ∧ k ≤ ls.length ∧ Sd (IsRd wr b1 ⟨P3, ((putL ns ++ putI is) ++ putT (ls.take k)).length, 0, 0⟩ R4 d4) ∧ Sd (IsRd wr b2 ⟨bs, 0, 0, 0⟩ R5 d5) ∧ Sd (Keeps NoB w wr))
                case atStart => exact ⟨0, rfl, rfl, by omega, ⟨by simpa [putT] using HR.o⟩, HQ, HK⟩
                case round =>
                  clear HR HQ HK hq
                  obtain ⟨k, hk, rfl, hk1, HR, HQ, HK⟩ := hrel
                  by_cases hlt : k < ls.length
                  · have hq : decide (k < ls.length) = true := by simpa using hlt
                    obtain ⟨b0, o0, rfl, hc⟩ := H3.o k (by rw [strs_len]; exact hlt)
                    have hc2 : wr.cell? ⟨b0, o0 + k, none⟩ = some (.string (sOf ls[k])) := by rw [HK.o.cell hc (fun f => f)]; simp [strs]
                    have hb0 : b0 < b1 := by have := World.block_lt_of_cell? w _ hc; simp at this; omega
                    have htk : Sd (((putL ns ++ putI is) ++ putT (ls.take (k + 1))).length = ((putL ns ++ putI is) ++ putT (ls.take k)).length + (put1 ls[k].length ++ ls[k]).length) := ⟨by rw [List.take_succ_eq_append_getElem hlt, putT_snoc]; simp only [List.length_append]; omega⟩
                    have hsm := sumLen_take_le ls k hlt
                    have hsz : ls[k].length ≤ 20000 := by have := HS2.o; omega
                    have hnum := RSt.text_put (s := ⟨P3, ((putL ns ++ putI is) ++ putT (ls.take k)).length, 0, 0⟩) (pre := (putL ns ++ putI is) ++ putT (ls.take k)) (post := putT (ls.drop (k + 1))) (t := ls[k]) (by
                      have := split_at put1T ls k hlt
                      rw [HP3.o, HP2.o, HP1.o]
                      unfold putT at *
                      rw [this]
                      simp only [List.append_assoc, put1T]) rfl rfl (by omega)
                    have hC := text_some wr.drew b1 _ R4 d4 HR.o.drew (ls[k].length : Int) (by omega) (by omega)
                    rw [hnum] at hC
                    dsimp only at hC
                    have hss : (sOf ls[k]).size = ls[k].length := sOf_size _
                    rw [← hss] at hC hsz htk
                    have HC := Sd.mk hC
                    have i0 : (0 : Int) ≤ (k : Int) := by omega
                    have i1 : (k : Int) < (ls.length : Int) := by omega
                    clear hC hnum hc hsm hss
                    generalize sOf ls[k] = S0 at *
                    generalize ls[k] = s0 at *
                    go_wp2_with fail
                    go_region_held3 (fun w' => w'.cell? ⟨b0, o0 + k, none⟩ = some (.string S0)) (first | assumption | exact hc6)
                      (first
                        | (go_at_call 23
                           refine HC.o.mono ?_
                           rintro e w6 ⟨rfl, hI6, hK6⟩
                           have hc6 : w6.cell? ⟨b0, o0 + k, none⟩ = some (.string S0) := hK6.cell (show wr.drew.cell? _ = some _ from hc2) (fun f => by cases f; exact Nat.lt_irrefl _ hb0)
                           have HI6 := Sd.mk hI6
                           have HK6 := Sd.mk hK6
                           clear hI6 hK6))
                    clear hc2
                    go_wp2_with fail
                    go_roundg (gk - 1)
                    case measure => omega
                    case rel => exact ⟨k + 1, by omega, by go_num, by omega, ⟨by rw [htk.o]; exact HI6.o⟩, ⟨HQ.o.drew.keeps HK6.o (fun f => by cases f; exact Nat.lt_irrefl _ hbb) HOF.o⟩, ⟨HK.o.drew.trans HK6.o (fun _ _ f => f) (fun i hi f => by cases f; omega)⟩⟩
                  · have hq : decide (k < ls.length) = false := by simpa using hlt
                    have hke : k = ls.length := by omega
                    subst hke
                    rw [List.take_length] at HR
                    clear hk1 hk hlt
                    have hP3 : P3 = (putL ns ++ putI is) ++ putT ls := by rw [HP3.o, HP2.o, HP1.o]
                    rw [← hP3] at HR
                    have hC := num_some wr b2 _ R5 d5 HQ.o
                    have hback := RSt.num_back bs
                    have hxl := RSt.num_lt ⟨bs, 0, 0, 0⟩
                    have hpp := RSt.num_p ⟨bs, 0, 0, 0⟩
                    dsimp only at hpp
                    obtain ⟨q, hq0⟩ : ∃ q, q = (RSt.num ⟨bs, 0, 0, 0⟩) := ⟨_, rfl⟩
                    rw [← hq0] at hC hback hxl hpp
                    clear hq0 hP3 HQ
                    obtain ⟨x, st⟩ := q
                    dsimp only at hC hback hxl hpp
                    have HC := Sd.mk hC
                    have HBK := Sd.mk hback
                    have HXL := Sd.mk hxl
                    have HPP := Sd.mk hpp
                    clear hC hback hxl hpp
                    go_wp2_with (go_at_call 21; refine HC.o.mono ?_; rintro e w6 ⟨rfl, hI6, hK6⟩)
                    have HI6 := Sd.mk hI6
                    have HR6 : Sd (IsRd w6 b1 ⟨P3, P3.length, 0, 0⟩ R4 d4) := ⟨HR.o.keeps hK6 (fun f => by cases f; exact Nat.lt_irrefl _ hbb) HOF4.o⟩
                    have HK6 : Sd (Keeps NoB w w6) := ⟨HK.o.trans hK6 (fun _ _ f => f) (fun i hi f => by cases f; omega)⟩
                    clear hI6 hK6 HR HK HC
                    go_wp2_with (go_at_call 24; refine (why_some _ _ _ _ _ HI6.o).mono ?_; rintro e w7 ⟨rfl, n7, rfl⟩)
                    have HI7 : Sd (IsRd (w6.drewN n7) b2 st R5 d5) := ⟨HI6.o.drewN n7⟩
                    have HR7 : Sd (IsRd (w6.drewN n7) b1 ⟨P3, P3.length, 0, 0⟩ R4 d4) := ⟨HR6.o.drewN n7⟩
                    have HK7 : Sd (Keeps NoB w (w6.drewN n7)) := ⟨HK6.o.drewN n7⟩
                    clear HI6 HR6 HK6
                    generalize w6.drewN n7 = w7 at *
                    go_cut [17, 137] from 116 to 144 (fun _ sx wx => sx = .bool false ∧ Sd (Keeps NoB w wx) ∧ Sd (IsRd wx b1 ⟨P3, P3.length, 0, 0⟩ R4 d4))
                    case first =>
                      by_cases he : st.err = 0
                      · obtain ⟨hpt, hple⟩ := HBK.o he
                        have hlen : (bs.take st.pos).length = st.pos := by simp; omega
                        have hcap := HB.o.rd.2.1
                        have hsp := HB.o.rd.2.2.2.2.1
                        obtain ⟨i0, hi, hz0, hz1, hz2⟩ := info_parts infoU8
                        have hsli : ∀ w', (Instr.slice 22 (.slice A0 bs.length c0) none (some (.int .i64 st.pos)) none).run Try.prog w' = .ok (.slice A0 st.pos c0) w' := fun w' =>
                          slice_run_h 22 5 .i64 Try.underlying22 hi hz1 A0 bs.length c0 st.pos (fun hc a ha => (hsp hc a ha).1) (by omega) w' st.pos rfl
                        have HC : Sd (∀ w', Keeps NoB w w' → (convert 22 9 (.slice A0 st.pos c0)).run Try.prog w' = .ok (.string (sOf (bs.take st.pos))) w') := ⟨fun w' h => by
                          have := conv_rd (P := Try.prog) w' 22 5 9 Try.underlying22 Try.underlying5 Try.underlying9 A0 (bs.take st.pos) c0 ((HB.o.keeps h (fun _ _ _ _ _ f => f)).take st.pos hple).rd.2.2.2.2.2
                          rwa [hlen] at this⟩
                        have HPT := Sd.mk hpt
                        have HLEN := Sd.mk hlen
                        have hq0 := HC.o w7.drew HK7.o.drew
                        have hq1 := HC.o (w7.alloc (.cells #[.int .u64 (x : Nat)] 37)).drew (HK7.o.alloc _).drew
                        have hq2 := HC.o (w7.drew.alloc (.cells #[.int .u64 (x : Nat)] 37)) (HK7.o.drew.alloc _)
                        have HV : Sd (VRd (w7.alloc (.cells #[.int .u64 (x : Nat)] 37)).drew (some ⟨w7.heap.size, 0, none⟩) (u64s [x])) := ⟨VRd.keeps (one_vrd (w := w7)) (Keeps.drew (Keeps.refl NoB _)) (fun _ _ _ _ f => f)⟩
                        have HPUT : Sd (Calls Try.prog 15 #[.slice none 0 0, .slice (some ⟨w7.heap.size, 0, none⟩) 1 1] (w7.alloc (.cells #[.int .u64 (x : Nat)] 37)).drew fun e w8 => ∃ A8 c8, e = .returned (.slice A8 st.pos c8) ∧ (convert 22 9 (.slice A8 st.pos c8)).run Try.prog w8 = .ok (.string (sOf (bs.take st.pos))) w8 ∧ Keeps NoB w7 w8) := ⟨by
                          have hc := put_any (w7.alloc (.cells #[.int .u64 (x : Nat)] 37)).drew none 0 [] (Own.nil _ 0).v [x] (by intro n hn; simp at hn; subst hn; exact HXL.o) (some ⟨w7.heap.size, 0, none⟩) 1 HV.o (by intro _ b o s _ f; simp [ownB, Value.ownBlock] at f) (by simp)
                          rw [List.nil_append, HPT.o, HLEN.o] at hc
                          refine hc.mono ?_
                          rintro e w8 ⟨R8, d8, rfl, hO8, hK8, hG8⟩
                          have h := conv_rd (P := Try.prog) w8 22 5 9 Try.underlying22 Try.underlying5 Try.underlying9 R8 (bs.take st.pos) d8 hO8.own.bts.rd.2.2.2.2.2
                          rw [HLEN.o] at h
                          exact ⟨R8, d8, rfl, h, ((Keeps.refl NoB w7).alloc _).drew.trans hK8 (fun _ _ f => f) (fun i _ f => by simp [ownB, Value.ownBlock] at f)⟩⟩
                        clear hpt hlen hcap hsp hi hz0 hz1 hz2
                        go_region_law
                          (first
                            | (go_simp; go_at_call 11
                               refine (num_law _ _).mono ?_
                               rintro e w' ⟨rfl, rfl⟩)
                            | (go_simp; go_at_call 15
                               refine HPUT.o.mono ?_
                               rintro e w8 ⟨R8, d8, rfl, hcv8, hk8⟩
                               have hq8 := HC.o w8 (HK7.o.then hk8)
                               have hi8 := Sd.mk (HI7.o.keeps hk8 (fun f => f) (fun _ _ _ _ _ f => f))
                               have hr8 := Sd.mk (HR7.o.keeps hk8 (fun f => f) (fun _ _ _ _ _ f => f))
                               replace hk8 := Sd.mk hk8)
                            | (go_simp; go_at_call 25
                               refine (at_some _ b2 st R5 d5 (by first | exact HI7.o.drew | exact hi8.o | exact (HI7.o.keeps (Keeps.alloc (Keeps.refl NoB _) _) (fun f => f) (fun _ _ _ _ _ f => f)).drew | exact HI7.o.drew.keeps (Keeps.alloc (Keeps.refl NoB _) _) (fun f => f) (fun _ _ _ _ _ f => f))).mono ?_
                               rintro e w' ⟨rfl, rfl⟩))
                        all_goals (go_wp2_with fail; (try go_simp); (try simp only [Act.put, List.setIfInBounds_toArray, List.set_cons_zero, List.set_cons_succ]); go_meet; exact ⟨rfl, ⟨HK7.o.then hk8.o⟩, hr8⟩)
                      · have hb : (st.err == 0) = false := by simp [he]
                        clear he
                        go_quiet ((go_at_call 11; exact Calls.quiet_same (num_law _ _)))
                        go_wp2_with fail
                        go_meet
                        exact ⟨rfl, ⟨HK7.o.drewN _⟩, ⟨HR7.o.drewN _⟩⟩
                    obtain ⟨rfl, HK8, HR8⟩ := hcut
                    clear HK7 HI7 HR7 HBK HXL HPP
                    have hd : (⟨P3, P3.length, 0, 0⟩ : RSt).done = 0 := by simp [RSt.done]
                    have hC := done_some wc b1 _ R4 d4 HR8.o
                    rw [hd] at hC
                    have HC := Sd.mk hC
                    clear hC hd
                    go_wp2_with (go_at_call 26; refine HC.o.mono ?_; rintro e w9 ⟨rfl, n9, rfl⟩)
                    go_wp2_with (go_at_call 11; refine (num_law _ _).mono ?_; rintro e w' ⟨rfl, rfl⟩)
                    go_wp2_with (go_at_call 12; refine (live_any _).mono ?_; rintro e w' ⟨rfl, hk'⟩)
                    go_ret
                    exact ⟨rfl, (HK8.o.drewN _).then hk'⟩
end Go.Proofs.Ytlnmjeiiagkipaa.octetBack
