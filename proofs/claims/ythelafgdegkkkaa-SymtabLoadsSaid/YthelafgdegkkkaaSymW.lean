/- SymtabLoads: the walk. -/
import Derived.Test.YthelafgdegkkkaaSymO
namespace Go.Proofs.Ythelafgdegkkkaa.symtabLoads
open Go.RowKit Go.Maps

theorem loadGo_len : ∀ (fs acc l : List (List UInt8)), loadGo fs acc = some l → acc.length ≤ 65536 → l.length ≤ 65536
  | [], acc, l, h, ha => by unfold loadGo at h; cases h; exact ha
  | b :: bs, acc, l, h, ha => by
    unfold loadGo at h
    split at h
    · rename_i hc
      exact loadGo_len bs _ l h (by simp; omega)
    · cases h
theorem loadL_len {p : List UInt8} {l : List (List UInt8)} (h : loadL p = some l) : l.length ≤ 65536 := loadGo_len _ _ _ h (by simp)

set_option maxHeartbeats 8000000 in
set_option maxRecDepth 100000 in
theorem walk (w : World) (A0 : Option Addr) (c0 : Nat) (bs : List UInt8) (h0 : Bts w (.slice A0 bs.length c0) bs) (hbl : bs.length ≤ 9223372036854775807) (S : ByteArray) (hS : S.size ≤ 9223372036854775807) (n : Int) (hn0 : -9223372036854775808 ≤ n) (hn1 : n ≤ 9223372036854775807) :
    Calls Try.prog 3 #[.slice A0 bs.length c0, .string S, .int .i64 n] w fun e w' => e = .returned (.bool true) ∧ Keeps NoB w w' := by
  have H0 := Sd.mk h0
  clear h0
  by_cases g1 : 20000 < bs.length
  · have hd1 : decide ((20000 : Int) < (bs.length : Int)) = true := by simp; omega
    go_enter Try.func3, Try.ntmps3
    go_wp2_with (go_at_call 5; refine (slive_any _).mono ?_; rintro e w' ⟨rfl, hk'⟩)
    go_ret
    exact ⟨rfl, hk'⟩
  have hd1 : decide ((20000 : Int) < (bs.length : Int)) = false := by simp; omega
  by_cases g2 : 20000 < S.size
  · have hd2 : decide ((20000 : Int) < (S.size : Int)) = true := by simp; omega
    go_enter Try.func3, Try.ntmps3
    go_wp2_with (go_at_call 5; refine (slive_any _).mono ?_; rintro e w' ⟨rfl, hk'⟩)
    go_ret
    exact ⟨rfl, hk'⟩
  have hd2 : decide ((20000 : Int) < (S.size : Int)) = false := by simp; omega
  have hbs : bs.length ≤ 20000 := by omega
  have hSs : S.size ≤ 20000 := by omega
  clear g1 g2 hbl hS
  go_enter Try.func3, Try.ntmps3
  go_wp2_with (at_builtin; go_must (refine app_lit0 rfl _ _ 22 5 (.int .u8 0) 1 rfl Try.underlying22 infoU8' rfl w.heap.size rfl rfl A0 bs.length c0 (bvs bs) rfl (bvs_length bs) (rd_vrd H0.o.rd.2.2.2.2.2) (bvs_one bs) (by omega) (by omega) ?_); intro R0 d0 w3 HO HK HF; have HP := Sd.mk (And.intro HO (And.intro HK HF)); clear HO HK HF)
  refine (tload_any w3 R0 d0 bs HP.o.1.bts (by omega)).mono ?_
  rintro e w4 ⟨hK4, h1⟩
  have HK4 : Sd (Keeps NoB w w4) := ⟨HP.o.2.1.then hK4⟩
  clear hK4
  rcases h1 with ⟨hld, rfl⟩ | ⟨l, b, mb, A, c, hld, rfl, hT⟩
  · have HLD := Sd.mk hld
    clear hld
    go_wp2_with fail
    refine (trload_any w4 A0 c0 bs (H0.o.kept HK4.o) (by omega)).mono ?_
    rintro e w5 ⟨hK5, h1⟩
    have HK5 : Sd (Keeps NoB w w5) := ⟨HK4.o.then hK5⟩
    clear hK5
    rcases h1 with ⟨hld2, rfl⟩ | ⟨l2, b2, A2, c2, hld2, rfl, hR⟩
    · clear hld2
      go_wp2_with (first | (go_at_call 8; refine (num_law _ _).mono ?_; rintro e w' ⟨rfl, rfl⟩) | (go_at_call 5; refine (slive_any _).mono ?_; rintro e w' ⟨rfl, hk'⟩))
      go_ret
      exact ⟨rfl, HK5.o.then hk'⟩
    · exact absurd (HLD.o.symm.trans hld2) (by simp)
  · have HLD := Sd.mk hld
    have HT := Sd.mk hT
    clear hld hT
    go_wp2_with fail
    refine (trload_any w4 A0 c0 bs (H0.o.kept HK4.o) (by omega)).mono ?_
    rintro e w5 ⟨hK5, h1⟩
    have HK5 : Sd (Keeps NoB w w5) := ⟨HK4.o.then hK5⟩
    have HT5 := Sd.mk (HT.o.kept hK5)
    clear hK5
    rcases h1 with ⟨hld2, rfl⟩ | ⟨l2, b2, A2, c2, hld2, rfl, hR⟩
    · exact absurd (HLD.o.symm.trans hld2) (by simp)
    · have hl2 := Option.some.inj (HLD.o.symm.trans hld2)
      subst hl2
      have HR := Sd.mk hR
      have hll := loadL_len hld2
      clear hld2 hR
      have HTE := Sd.mk (tells_any w5 _ b mb A c l HT5.o _ b2 A2 c2 HR.o hll S hSs n hn0 hn1)
      go_wp2_with (first | (go_at_call 8; refine (num_law _ _).mono ?_; rintro e w' ⟨rfl, rfl⟩) | (go_at_call 9; refine HTE.o.mono ?_; rintro e w6 ⟨rfl, hk6⟩) | (go_at_call 5; refine (slive_any _).mono ?_; rintro e w7 ⟨rfl, hk7⟩))
      go_ret
      exact ⟨rfl, (HK5.o.then hk6).then hk7⟩
end Go.Proofs.Ythelafgdegkkkaa.symtabLoads
