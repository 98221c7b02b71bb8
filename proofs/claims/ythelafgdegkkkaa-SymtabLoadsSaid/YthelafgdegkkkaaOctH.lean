/- the reference: Put, PutInt, PutText. -/
import Derived.Test.YthelafgdegkkkaaOctG
namespace Go.Proofs.Ythelafgdegkkkaa
open Go.RowKit

set_option maxHeartbeats 4000000 in
set_option maxRecDepth 100000 in
theorem rput_any (w : World) (A : Option Addr) (c : Nat) (xs : List UInt8) (hown : OwnV w 5 (.slice A xs.length c) (bvs xs)) (n0 : Nat) (hn : n0 < 18446744073709551616) (hsz : xs.length + 10 ≤ 140737488355328) :
    Calls Try.prog 63 #[.slice A xs.length c, .int .u64 n0] w fun e w' => ∃ A' c', e = .returned (.slice A' (xs ++ put1 n0).length c') ∧ OwnV w' 5 (.slice A' (xs ++ put1 n0).length c') (bvs (xs ++ put1 n0)) ∧ Keeps (ownB (.slice A xs.length c)) w w' ∧ Grew w (.slice A xs.length c) (.slice A' (xs ++ put1 n0).length c') := by
  have HO := Sd.mk hown
  have HN := Sd.mk hn
  obtain ⟨V, hV⟩ : ∃ V, V = Value.slice A xs.length c := ⟨_, rfl⟩
  have HV := Sd.mk hV
  have hp0 := put1_len10 n0 hn
  clear hown hn
  go_enter Try.func63, Try.ntmps63
  go_wp2_with fail
  go_loopg [0, 1] 10 (fun gk2 v n wr2 => ∃ (m : Nat) (zs : List UInt8) (A2 : Option Addr) (c2 : Nat), n = .int .u64 m ∧ v = .slice A2 zs.length c2 ∧ Sd (m < 128 ^ gk2) ∧ Sd (xs ++ put1 n0 = zs ++ put1 m) ∧ Sd (m < 18446744073709551616) ∧ Sd (OwnV wr2 5 (.slice A2 zs.length c2) (bvs zs)) ∧ Sd (Keeps (ownB V) w wr2) ∧ Sd (Grew w V (.slice A2 zs.length c2)))
  case atStart => exact ⟨n0, xs, A, c, rfl, rfl, ⟨by have := HN.o; omega⟩, ⟨rfl⟩, HN, HO, ⟨Keeps.refl _ _⟩, ⟨by rw [hV]; exact Grew.refl _ _⟩⟩
  case round =>
    clear HO hV
    obtain ⟨m, zs, A2, c2, rfl, rfl, hm, hzs, hm64, HO, HK, HG⟩ := hrel
    have hzl := put1_sum hzs.o HN.o
    by_cases h128 : m < 128
    · have hq2 : ¬ (128 : Int) ≤ (m : Int) := by omega
      go_wp2_with (at_builtin; go_must (refine app_row rfl _ _ 22 5 (.int .u8 0) 1 rfl Try.underlying22 infoU8' rfl (.slice A2 zs.length c2) (bvs zs) rfl (HO.o.keeps ((Keeps.refl NoB _).alloc _) (fun _ _ f => f)) ⟨_, 0, none⟩ 1 1 [.int .u8 (m : Int)] rfl rfl (fun _ _ hj => new_one hj) one1 (by rw [bvs_length]; omega) (by rw [bvs_length]; omega) ?_))
      intro A3 c3 w3 HO3 HK3 HG3
      have HO3' := Sd.mk HO3
      have HK3' := Sd.mk HK3
      have HG3' := Sd.mk HG3
      clear HO3 HK3 HG3
      go_wp2
      go_ret
      have e1 : xs ++ put1 n0 = zs ++ [UInt8.ofNat m] := by rw [hzs.o, put1_lt m h128]
      have hbv : bvs zs ++ [Value.int .u8 (m : Int)] = bvs (zs ++ [UInt8.ofNat m]) := by rw [bvs_append, UInt8.v1]; simp; omega
      have hl : (bvs zs).length + 1 = (zs ++ [UInt8.ofNat m]).length := by rw [bvs_length]; simp
      rw [hbv, hl] at HO3'
      rw [hl] at HG3'
      rw [e1]
      exact ⟨A3, c3, by rw [← hl]; rfl, HO3'.o, by rw [← HV.o]; exact HK.o.grow HG.o HK3'.o.undoalloc, by rw [← HV.o]; exact HG.o.grow HK.o HG3'.o.undoalloc⟩
    · have hq2 : (128 : Int) ≤ (m : Int) := by omega
      go_wp2_with (at_builtin; go_must (refine app_row rfl _ _ 22 5 (.int .u8 0) 1 rfl Try.underlying22 infoU8' rfl (.slice A2 zs.length c2) (bvs zs) rfl (HO.o.keeps ((Keeps.refl NoB _).alloc _) (fun _ _ f => f)) ⟨_, 0, none⟩ 1 1 [.int .u8 _] rfl rfl (fun _ _ hj => new_one hj) one1 (by rw [bvs_length]; omega) (by rw [bvs_length]; omega) ?_))
      intro A3 c3 w3 HO3 HK3 HG3
      have HO3' := Sd.mk HO3
      have HK3' := Sd.mk HK3
      have HG3' := Sd.mk HG3
      clear HO3 HK3 HG3
      go_wp2
      go_roundg (gk - 1)
      case measure =>
        cases gk with
        | zero => have := hm.o; simp at this; omega
        | succ g => omega
      case rel =>
        obtain ⟨zs', hzs'⟩ : ∃ zs', zs' = zs ++ [UInt8.ofNat (m % 128 + 128)] := ⟨_, rfl⟩
        have hbv : bvs zs ++ [Value.int .u8 ((m : Int) % 128 + 128)] = bvs zs' := by rw [hzs', bvs_append, UInt8.v1]; simp; omega
        have hl : (bvs zs).length + 1 = zs'.length := by rw [hzs', bvs_length]; simp
        rw [hbv, hl] at HO3'
        rw [hl] at HG3'
        rw [hl]
        refine ⟨m / 128, zs', A3, c3, by rw [show (m : Int) / 128 = ((m / 128 : Nat) : Int) by omega, u64_nat _ (by have := hm64.o; omega)], rfl, ⟨?_⟩, ⟨by rw [hzs', hzs.o, put1_ge m h128]; simp⟩, ⟨by have := hm64.o; omega⟩, HO3', ⟨HK.o.grow HG.o ((Keeps.undoalloc HK3'.o))⟩, ⟨HG.o.grow HK.o (HG3'.o.undoalloc)⟩⟩
        cases gk with
        | zero => have := hm.o; simp at this; omega
        | succ g =>
          have := hm.o
          rw [Nat.pow_succ] at this
          show m / 128 < 128 ^ g
          omega

set_option maxHeartbeats 4000000 in
set_option maxRecDepth 100000 in
theorem rputtext_any (w : World) (A : Option Addr) (c : Nat) (xs : List UInt8) (hown : OwnV w 5 (.slice A xs.length c) (bvs xs)) (S : ByteArray) (hsz : xs.length + 10 + S.size ≤ 140737488355328) :
    Calls Try.prog 59 #[.slice A xs.length c, .string S] w fun e w' => ∃ A' c', e = .returned (.slice A' (xs ++ (put1 S.size ++ S.data.toList)).length c') ∧ OwnV w' 5 (.slice A' (xs ++ (put1 S.size ++ S.data.toList)).length c') (bvs (xs ++ (put1 S.size ++ S.data.toList))) ∧ Keeps (ownB (.slice A xs.length c)) w w' ∧ Grew w (.slice A xs.length c) (.slice A' (xs ++ (put1 S.size ++ S.data.toList)).length c') := by
  have HC := Sd.mk (rput_any w A c xs hown S.size (by omega) (by omega))
  have hSle : S.size ≤ 140737488355328 := by omega
  have h1 := put1_len10 S.size (by omega)
  clear hown
  go_enter Try.func59, Try.ntmps59
  go_wp2_with fail
  refine HC.o.mono ?_
  clear HC
  rintro e w2 ⟨A3, c3, rfl, HO3, HK3, HG3⟩
  obtain ⟨zs, hzs⟩ : ∃ zs, zs = xs ++ put1 S.size := ⟨_, rfl⟩
  rw [← hzs] at HO3 HG3 ⊢
  have hzl : zs.length ≤ xs.length + 10 := by rw [hzs]; simp; omega
  have HZ := Sd.mk hzs
  have HO3' := Sd.mk HO3
  have HK3' := Sd.mk HK3
  have HG3' := Sd.mk HG3
  clear HO3 HK3 HG3 hzs h1
  go_wp2_with (at_builtin; go_must (refine app_str rfl _ _ 22 9 5 rfl Try.underlying22 Try.underlying9 infoU8' (.slice A3 zs.length c3) (bvs zs) rfl HO3'.o S rfl (by rw [bvs_length]; omega) ?_))
  intro A4 c4 w4 HO4 HK4 HG4
  have HO4' := Sd.mk HO4
  have HK4' := Sd.mk HK4
  have HG4' := Sd.mk HG4
  clear HO4 HK4 HG4
  go_wp2
  go_ret
  have e1 : xs ++ (put1 S.size ++ S.data.toList) = zs ++ S.data.toList := by rw [HZ.o, List.append_assoc]
  have e2 : (bvs zs).length + S.size = (zs ++ S.data.toList).length := by rw [bvs_length, List.length_append, Array.length_toList]; rfl
  rw [e2] at HO4' HG4'
  rw [← bvs_append] at HO4'
  rw [e1]
  exact ⟨A4, c4, by rw [← e2]; rfl, HO4'.o, HK3'.o.grow HG3'.o HK4'.o, HG3'.o.grow HK3'.o HG4'.o⟩
end Go.Proofs.Ythelafgdegkkkaa
