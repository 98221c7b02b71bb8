/- OctetBursts: the walk. -/
import Derived.Test.YtlnmjeiiagkipaaWFrames
import Derived.Test.YtlnmjeiiagkipaaOctU
namespace Go.Proofs.Ytlnmjeiiagkipaa
open Go.RowKit
/-- The block of an owned row of bytes that is not empty. -/
theorem OwnV.blk {w : World} {A : Option Addr} {n c : Nat} {xs : List UInt8} (h : OwnV w 5 (.slice A n c) (bvs xs)) (hp : 0 < xs.length) : ∃ g cur, A = some ⟨g, 0, none⟩ ∧ n = xs.length ∧ w.heap[g]? = some (.cells cur 5 (0, 0)) ∧ n ≤ c ∧ c ≤ maxLen ∧ cur.size = c ∧ cur.toList.take n = bvs xs := by
  have hl := bvs_length xs
  obtain ⟨h1, h2⟩ := h
  rcases h2 with ⟨e0, hn⟩ | ⟨g, cap, cur, e0, hb, hg, hn, hc, hs, ht⟩
  · omega
  · injection e0 with e1 e2 e3
    subst e1 e3
    rw [hl] at e2
    subst e2
    rw [hl, Nat.mul_one] at ht
    exact ⟨g, cur, rfl, rfl, hg, by rw [hl] at hn; exact hn, hc, by rw [hs]; omega, ht⟩
theorem own_set {w : World} {g n c b : Nat} {cur : Array Value} {xs : List UInt8} (hg : w.heap[g]? = some (.cells cur 5 (0, 0))) (hn : n = xs.length) (hnc : n ≤ c) (hcm : c ≤ maxLen) (hs : cur.size = c) (ht : cur.toList.take n = bvs xs) (y : UInt8) (u : Value) (hu : u = u8v y) :
    OwnV (w.setCell ⟨g, b, none⟩ u) 5 (.slice (some ⟨g, 0, none⟩) n c) (bvs (xs.set b y)) := by
  subst hu
  refine ⟨by simp [bvs], .inr ⟨g, c, cur.setIfInBounds b (u8v y), by simp [bvs, hn], Nat.zero_le _, blk_set hg b _, by simp [bvs]; omega, hcm, by simp [hs], ?_⟩⟩
  simp only [bvs_length, List.length_set, Nat.mul_one, Array.toList_setIfInBounds]
  rw [← hn, List.take_set, ht]
  simp [bvs]
theorem Keeps.set {w w' : World} (h : Keeps NoB w w') (g b : Nat) (u : Value) (hg : w.heap.size ≤ g) : Keeps NoB w (w'.setCell ⟨g, b, none⟩ u) :=
  h.trans (G := OneB g) ⟨rfl, rfl, rfl, by simp [World.setCell], fun k _ hk => Below.heap_setCell _ _ _ _ hk⟩ (fun _ _ f => f) (fun i hi e => by cases e; omega)
theorem xor_u8 (a b : Nat) (ha : a < 2 ^ 8) (hb : b < 2 ^ 8) : bits .xor .u8 (a : Int) (b : Int) = ((a ^^^ b : Nat) : Int) := by
  have hx : a ^^^ b < 2 ^ 8 := Nat.xor_lt_two_pow ha hb
  have h1 : (BitVec.ofInt 8 (a : Int)).toNat = a := by
    rw [BitVec.ofInt_natCast, BitVec.toNat_ofNat]; exact Nat.mod_eq_of_lt ha
  have h2 : (BitVec.ofInt 8 (b : Int)).toNat = b := by
    rw [BitVec.ofInt_natCast, BitVec.toNat_ofNat]; exact Nat.mod_eq_of_lt hb
  show IntKind.u8.wrap ((BitVec.ofInt 8 (a : Int) ^^^ BitVec.ofInt 8 (b : Int)).toNat : Int) = _
  rw [BitVec.toNat_xor, h1, h2]
  exact wraps_u8 _ (by omega) (by exact_mod_cast hx)
end Go.Proofs.Ytlnmjeiiagkipaa
namespace Go.Proofs.Ytlnmjeiiagkipaa.octetBursts
open Go.RowKit
set_option maxHeartbeats 4000000 in
set_option maxRecDepth 100000 in
theorem walk (w : World) (A0 : Option Addr) (c0 : Nat) (p : List UInt8) (h0 : Bts w (.slice A0 p.length c0) p) (at_ : Int) (ha0 : -9223372036854775808 ≤ at_) (ha1 : at_ ≤ 9223372036854775807) (M : Nat) (hM : M < 4294967296) :
    Calls Try.prog 3 #[.slice A0 p.length c0, .int .i64 at_, .int .u32 (M : Int)] w fun e w' => e = .returned (.bool true) ∧ Keeps NoB w w' := by
  have H0 := Sd.mk h0
  have hpl : p.length ≤ 9223372036854775807 := by have := h0.rd; unfold maxLen at this; omega
  have HSE := Sd.mk (seal_any _ _ 1 [p] (LRd.one h0 22) (by simp))
  clear h0
  have ef : [p].flatten = p := by simp
  rw [ef] at HSE
  clear ef
  by_cases g1 : 20000 < p.length
  · have hq : decide ((20000 : Int) < (p.length : Int)) = true := by simp; omega
    have HC : Sd (Calls Try.prog 10 #[.slice (some ⟨w.heap.size, 0, none⟩) 1 1] (w.alloc (.cells #[.slice A0 p.length c0] 22)) (fun e w'' => ∃ A n c er, e = .returned (.tuple #[.slice A n c, .int .i64 er]) ∧ Keeps NoB w w'')) := ⟨HSE.o.mono fun e w'' hh => by
      rcases hh with ⟨_, he, rfl⟩ | ⟨_, A, c, he, _, _, hK⟩
      · exact ⟨_, _, _, _, he, (Keeps.refl NoB w).alloc _⟩
      · exact ⟨_, _, _, _, he, hK.undoalloc⟩⟩
    clear g1 HSE
    go_enter Try.func3, Try.ntmps3
    go_wp2_with fail
    refine HC.o.mono ?_
    rintro e w2 ⟨A, n, c, er, rfl, hk⟩
    have HK := Sd.mk hk
    clear hk HC
    go_wp2_with (go_at_call 12; refine (live_any _).mono ?_; rintro e w' ⟨rfl, hk'⟩)
    go_ret
    exact ⟨rfl, HK.o.then hk'⟩
  have hq : decide ((20000 : Int) < (p.length : Int)) = false := by simp; omega
  have hp2 : p.length ≤ 20000 := by omega
  obtain ⟨S, hS⟩ : ∃ S, S = sealL p := ⟨_, rfl⟩
  have hSl : S.length = p.length + 8 := by rw [hS, sealL_len]
  have HC : Sd (Calls Try.prog 10 #[.slice (some ⟨w.heap.size, 0, none⟩) 1 1] (w.alloc (.cells #[.slice A0 p.length c0] 22)) (fun e w'' => ∃ A c, e = .returned (.tuple #[.slice A S.length c, .int .i64 0]) ∧ OwnV w'' 5 (.slice A S.length c) (bvs S) ∧ Fresh w (.slice A S.length c) ∧ Keeps NoB w w'')) := ⟨HSE.o.mono fun e w'' hh => by
    rw [← hS] at hh
    rcases hh with ⟨hb, _⟩ | ⟨_, A, c, he, hO, hF, hK⟩
    · omega
    · exact ⟨_, _, he, hO, (fun k hk => by have := hF k hk; simp at this; omega), hK.undoalloc⟩⟩
  have HSS := Sd.mk hS
  have HSL := Sd.mk hSl
  have hL : S.length ≤ 20008 := by omega
  have hL8 : 8 ≤ S.length := by omega
  clear g1 HSE hS hSl
  go_enter Try.func3, Try.ntmps3
  go_wp2_with fail
  refine HC.o.mono ?_
  rintro e w2 ⟨A, c, rfl, hO, hF, hk⟩
  have HK := Sd.mk hk
  have HO := Sd.mk hO
  have HF := Sd.mk hF
  clear hk hO hF HC
  by_cases g2 : at_ < 32
  · have hq2 : decide (at_ < 32) = true := by simpa using g2
    go_wp2_with (first | (go_at_call 11; refine (num_law _ _).mono ?_; rintro e w' ⟨rfl, rfl⟩) | (go_at_call 12; refine (live_any _).mono ?_; rintro e w' ⟨rfl, hk'⟩))
    go_ret
    exact ⟨rfl, HK.o.then hk'⟩
  obtain ⟨an, rfl⟩ : ∃ an : Nat, at_ = an := ⟨at_.toNat, by omega⟩
  have hq2 : decide ((an : Int) < 32) = false := by simp; omega
  by_cases g3 : 8 * S.length ≤ an
  · have hq3 : decide (8 * (S.length : Int) ≤ (an : Int)) = true := by simp; omega
    go_wp2_with (first | (go_at_call 11; refine (num_law _ _).mono ?_; rintro e w' ⟨rfl, rfl⟩) | (go_at_call 12; refine (live_any _).mono ?_; rintro e w' ⟨rfl, hk'⟩))
    go_ret
    exact ⟨rfl, HK.o.then hk'⟩
  have hq3 : decide (8 * (S.length : Int) ≤ (an : Int)) = false := by simp; omega
  have ha32 : 32 ≤ an := by omega
  have hab : an < 8 * S.length := by omega
  clear ha0 ha1 g2 g3
  obtain ⟨L, hLL⟩ : ∃ L, L = S.length := ⟨_, rfl⟩
  rw [← hLL] at HO HF HSL hL hL8 hq3 hab ⊢
  have HLL := Sd.mk hLL
  clear hLL
  obtain ⟨T, hT⟩ : ∃ T, T = 8 * L - an := ⟨_, rfl⟩
  have HT := Sd.mk hT
  clear hT
  go_wp2_with (go_at_call 11; refine (num_law _ _).mono ?_; rintro e w' ⟨rfl, rfl⟩)
  go_loopg [9, 10] 32 (fun gk t i wr => ∃ (k m : Nat) (f : List UInt8) (tb : Bool), gk + k = 32 ∧ i = .int .i64 k ∧ t = .bool tb ∧ Sd (tb = decide (m ≠ 0)) ∧ Sd (m < 2 ^ k) ∧ Sd (f.length = L) ∧ Sd (f.take 4 = four p.length) ∧ Sd (crcL 4294967295 f = crcL 4294967295 S ^^^ crcIt T m) ∧ Sd (OwnV wr 5 (.slice A L c) (bvs f)) ∧ Sd (Keeps NoB w wr))
  case atStart =>
    refine ⟨0, 0, S, false, by omega, rfl, rfl, ⟨rfl⟩, ⟨by decide⟩, ⟨HLL.o.symm⟩, ⟨by rw [HSS.o]; rfl⟩, ⟨by rw [crcIt_zero', Nat.xor_zero]⟩, ?_, HK⟩
    exact HO
  case round =>
    obtain ⟨k, m, f, tb, hk, rfl, rfl, htb, hm, hfl, hhd, hG, HOw, HKw⟩ := hrel
    clear HO HK
    by_cases hlt : k < 32
    · have hq4 : (k : Int) < 32 := by omega
      by_cases hbit : M / 2 ^ k % 2 = 1
      · have hand : bits .and .u32 ((M : Int) / 2 ^ k) 1 = 1 := by
          have h1 := and1_u32 (M / 2 ^ k) (Nat.lt_of_le_of_lt (Nat.div_le_self _ _) (by omega))
          rw [hbit] at h1
          exact_mod_cast h1
        by_cases hin : an + k < 8 * L
        · have hq5 : decide ((an : Int) + (k : Int) < 8 * (L : Int)) = true := by simp; omega
          obtain ⟨g, cur, rfl, -, hg, hnc, hcm, hcs, ht⟩ := HOw.o.blk (by rw [hfl.o]; omega)
          have hbl : (an + k) / 8 < f.length := by rw [hfl.o]; omega
          have i0 : (0 : Int) ≤ ((an : Int) + (k : Int)) / 8 := by omega
          have i1 : ((an : Int) + (k : Int)) / 8 < (L : Int) := by omega
          have hcell : wr.cell? ⟨g, (an + k) / 8, none⟩ = some (.int .u8 (f[(an + k) / 8].toNat : Int)) := by
            rw [blk_cell hg]
            have h1 : (cur.toList.take L)[(an + k) / 8]? = (bvs f)[(an + k) / 8]? := by rw [ht]
            rw [List.getElem?_take, if_pos (by rw [← hfl.o]; exact hbl)] at h1
            simpa [bvs, u8v, hbl] using h1
          have hfz := blk_frozen hg ((an + k) / 8)
          have HX := Sd.mk (show f[(an + k) / 8] = f[(an + k) / 8] from rfl)
          have HBL := Sd.mk hbl
          have HGG := Sd.mk hg
          have HTT := Sd.mk ht
          have HCS := Sd.mk hcs
          clear hg ht hcs hbit
          obtain ⟨x, hx⟩ : ∃ x, x = f[(an + k) / 8] := ⟨_, rfl⟩
          rw [← hx] at hcell
          have HXX := Sd.mk (show (∃ h : (an + k) / 8 < f.length, x = f[(an + k) / 8]) from ⟨hbl, hx⟩)
          clear hx hbl HX
          go_wp2_with fail
          go_roundg (gk - 1)
          case measure => omega
          case rel =>
            obtain ⟨hbl, hx⟩ := HXX.o
            have hr8 : (an + k) % 8 < 8 := by omega
            have hp8 : 2 ^ ((an + k) % 8) < 2 ^ 8 := Nat.pow_lt_pow_right (by decide) hr8
            have hxl : x.toNat < 2 ^ 8 := x.toNat_lt
            have hxx : x.toNat ^^^ 2 ^ ((an + k) % 8) < 2 ^ 8 := Nat.xor_lt_two_pow hxl hp8
            have hyn : (UInt8.ofNat (x.toNat ^^^ 2 ^ ((an + k) % 8))).toNat = x.toNat ^^^ 2 ^ ((an + k) % 8) := by
              rw [UInt8.toNat_ofNat', Nat.mod_eq_of_lt hxx]
            have hu : Value.int .u8 (bits .xor .u8 (x.toNat : Int) (2 ^ ((an + k) % 8) % 256)) = u8v (UInt8.ofNat (x.toNat ^^^ 2 ^ ((an + k) % 8))) := by
              unfold u8v
              rw [hyn, ← xor_u8 _ _ hxl hp8]
              congr 2
              have e : ((2 : Int) ^ ((an + k) % 8)) = ((2 ^ ((an + k) % 8) : Nat) : Int) := by push_cast; rfl
              rw [e]
              clear e hxx hyn
              generalize 2 ^ ((an + k) % 8) = q at hp8 ⊢
              omega
            have hpk : m < 2 ^ k := hm.o
            have hmx : m ^^^ 2 ^ k ≠ 0 := fun e => by
              have := xor_zero_eq e
              omega
            refine ⟨k + 1, m ^^^ 2 ^ k, f.set ((an + k) / 8) (UInt8.ofNat (x.toNat ^^^ 2 ^ ((an + k) % 8))), true, by omega, by go_num, rfl, ⟨(decide_eq_true hmx).symm⟩, ⟨?_⟩, ⟨by rw [List.length_set]; exact hfl.o⟩, ⟨?_⟩, ⟨?_⟩, ⟨?_⟩, ⟨HKw.o.set _ _ _ (HF.o g rfl)⟩⟩
            · exact Nat.xor_lt_two_pow (by rw [Nat.pow_succ]; omega) (Nat.pow_lt_pow_right (by decide) (by omega))
            · rw [List.take_set, List.set_eq_of_length_le (by rw [List.length_take]; omega)]
              exact hhd.o
            · rw [crcL_flip f _ _ _ hbl hr8 _ (by rw [hyn, hx]), hG.o, hfl.o, crcIt_xor, crcIt_pow T k (by rw [HT.o]; omega), Nat.xor_assoc]
              have e : 8 * L - (8 * ((an + k) / 8) + (an + k) % 8) = T - k := by rw [HT.o]; omega
              rw [e]
            · exact own_set HGG.o hfl.o.symm hnc hcm HCS.o HTT.o _ _ hu
        · have hq5 : decide ((an : Int) + (k : Int) < 8 * (L : Int)) = false := by simp; omega
          clear hbit
          go_wp2_with fail
          go_roundg (gk - 1)
          case measure => omega
          case rel => exact ⟨k + 1, m, f, tb, by omega, by go_num, rfl, htb, ⟨by have := hm.o; rw [Nat.pow_succ]; omega⟩, hfl, hhd, hG, HOw, HKw⟩
      · have hand : bits .and .u32 ((M : Int) / 2 ^ k) 1 = 0 := by
          have h1 := and1_u32 (M / 2 ^ k) (Nat.lt_of_le_of_lt (Nat.div_le_self _ _) (by omega))
          rw [show M / 2 ^ k % 2 = 0 by omega] at h1
          exact_mod_cast h1
        clear hbit
        go_wp2_with fail
        go_roundg (gk - 1)
        case measure => omega
        case rel => exact ⟨k + 1, m, f, tb, by omega, by go_num, rfl, htb, ⟨by have := hm.o; rw [Nat.pow_succ]; omega⟩, hfl, hhd, hG, HOw, HKw⟩
    · have hq4 : ¬ (k : Int) < 32 := by omega
      have hke : k = 32 := by omega
      have hm32 : m < 4294967296 := by have := hm.o; rw [hke] at this; exact this
      have hbo := burst_open p f m T (by omega) (by rw [hfl.o]; exact HSL.o) hhd.o (by rw [← HSS.o]; exact hG.o) hm32
      have HOP := open_any wr A c f (by rw [hfl.o]; exact HOw.o.bts) (by rw [hfl.o]; omega)
      obtain ⟨Q, hQ⟩ : ∃ Q, Q = openL f := ⟨_, rfl⟩
      rw [← hQ] at hbo HOP
      obtain ⟨q1, q2, er⟩ := Q
      dsimp only at hbo HOP
      have her : (er == 0) = !tb := by
        rw [htb.o]
        by_cases h : m = 0
        · rw [hbo.2 h]; simp [h]
        · have h2 : er ≠ 0 := fun e => h (hbo.1 e)
          simp [h, h2]
      rw [hfl.o] at HOP
      have HOP2 := Sd.mk HOP
      clear HOP hbo hQ hke hm32
      go_wp2_with fail
      refine HOP2.o.mono ?_
      clear HOP2
      rintro e w5 ⟨A5, c5, rfl, _, _, hk5⟩
      have HK5 := Sd.mk (HKw.o.then hk5)
      clear hk5
      go_wp2_with (first | (go_at_call 11; refine (num_law _ _).mono ?_; rintro e w' ⟨rfl, rfl⟩) | (go_at_call 12; refine (live_any _).mono ?_; rintro e w' ⟨rfl, hk'⟩))
      go_ret
      exact ⟨rfl, HK5.o.then hk'⟩
end Go.Proofs.Ytlnmjeiiagkipaa.octetBursts
