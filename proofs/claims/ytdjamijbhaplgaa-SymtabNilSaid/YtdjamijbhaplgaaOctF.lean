/- octet: Put, PutInt, PutText. -/
import Derived.Test.YtdjamijbhaplgaaOctE
import Derived.Test.YtdjamijbhaplgaaRow
namespace Go.Proofs.Ytdjamijbhaplgaa
open Go.RowKit

def u64s (ns : List Nat) : List Value := ns.map fun (n : Nat) => Value.int .u64 (n : Int)
theorem u64s_len (ns : List Nat) : (u64s ns).length = ns.length := by simp [u64s]
theorem UInt8.v1 (x : UInt8) : bvs [x] = [Value.int .u8 (x.toNat : Int)] := rfl

set_option maxHeartbeats 4000000 in
set_option maxRecDepth 100000 in
theorem put_any (w : World) (A : Option Addr) (c : Nat) (xs : List UInt8) (hown : OwnV w 5 (.slice A xs.length c) (bvs xs)) (ns : List Nat) (hns : ∀ n ∈ ns, n < 18446744073709551616) (A1 : Option Addr) (c1 : Nat)
    (hr : VRd w A1 (u64s ns)) (hoff : 0 < ns.length → ∀ b o s, A1 = some ⟨b, o, s⟩ → ¬ ownB (.slice A xs.length c) b) (hsz : xs.length + 10 * ns.length ≤ 140737488355328) :
    Calls Try.prog 58 #[.slice A xs.length c, .slice A1 ns.length c1] w fun e w' => ∃ A' c', e = .returned (.slice A' (xs ++ putL ns).length c') ∧ OwnV w' 5 (.slice A' (xs ++ putL ns).length c') (bvs (xs ++ putL ns)) ∧ Keeps (ownB (.slice A xs.length c)) w w' ∧ Grew w (.slice A xs.length c) (.slice A' (xs ++ putL ns).length c') := by
  have HO := Sd.mk hown
  have HR := Sd.mk hr
  have HF := Sd.mk hoff
  have HN := Sd.mk hns
  obtain ⟨V, hV⟩ : ∃ V, V = Value.slice A xs.length c := ⟨_, rfl⟩
  have HV := Sd.mk hV
  clear hown hr hoff hns
  have hns : ns.length ≤ 140737488355328 := by omega
  go_enter Try.func58, Try.ntmps58
  go_wp2_with fail
  go_loopg [0, 9] ns.length (fun gk v i wr => ∃ (k : Nat) (ys : List UInt8) (A' : Option Addr) (c' : Nat), gk + k = ns.length ∧ i = .int .i64 k ∧ v = .slice A' ys.length c' ∧ Sd (ys = xs ++ putL (ns.take k)) ∧ ys.length ≤ xs.length + 10 * k ∧ Sd (OwnV wr 5 (.slice A' ys.length c') (bvs ys)) ∧ Sd (Keeps (ownB V) w wr) ∧ Sd (Grew w V (.slice A' ys.length c')))
  case atStart => exact ⟨0, xs, A, c, rfl, rfl, rfl, ⟨by simp [putL]⟩, by omega, HO, ⟨Keeps.refl _ _⟩, ⟨by rw [hV]; exact Grew.refl _ _⟩⟩
  case round =>
    clear HO hV
    obtain ⟨k, ys, A', c', hk, rfl, rfl, hys, hyl, HO, HK, HG⟩ := hrel
    obtain ⟨gk1, hgk1⟩ : ∃ g, g = gk := ⟨_, rfl⟩
    subst hgk1
    by_cases hlt : k < ns.length
    · have hq : (k : Int) < (ns.length : Int) := by omega
      obtain ⟨b1, o1, rfl, hc⟩ := HR.o k (by rw [u64s_len]; exact hlt)
      have hc2 : wr.cell? ⟨b1, o1 + k, none⟩ = some (.int .u64 (ns[k] : Nat)) := by
        have := HK.o.cell hc (by rw [HV.o]; exact HF.o (by omega) _ _ _ rfl)
        rw [this]; simp [u64s]
      have hn : Sd (ns[k] < 18446744073709551616) := ⟨HN.o _ (List.getElem_mem hlt)⟩
      have htk : Sd (ns.take (k + 1) = ns.take k ++ [ns[k]]) := ⟨by rw [List.take_succ_eq_append_getElem hlt]⟩
      clear hc
      generalize ns[k] = n0 at *
      have hp0 := put1_len10 n0 hn.o
      go_wp2_with fail
      go_loopg [0, 6] 10 (fun gk2 v n wr2 => ∃ (m : Nat) (zs : List UInt8) (A2 : Option Addr) (c2 : Nat), n = .int .u64 m ∧ v = .slice A2 zs.length c2 ∧ Sd (m < 128 ^ gk2) ∧ Sd (ys ++ put1 n0 = zs ++ put1 m) ∧ Sd (m < 18446744073709551616) ∧ Sd (OwnV wr2 5 (.slice A2 zs.length c2) (bvs zs)) ∧ Sd (Keeps (ownB V) w wr2) ∧ Sd (Grew w V (.slice A2 zs.length c2)))
      case atStart => exact ⟨n0, ys, A', c', rfl, rfl, ⟨by have := hn.o; omega⟩, ⟨rfl⟩, hn, HO, HK, HG⟩
      case round =>
        clear HO HK HG hc2
        obtain ⟨m, zs, A2, c2, rfl, rfl, hm, hzs, hm64, HO, HK, HG⟩ := hrel
        have hzl := put1_sum hzs.o hn.o
        by_cases h128 : m < 128
        · have hq2 : ¬ (128 : Int) ≤ (m : Int) := by omega
          go_wp2_with (at_builtin; refine app_row rfl _ _ 26 5 (.int .u8 0) 1 rfl Try.underlying26 infoU8' rfl (.slice A2 zs.length c2) (bvs zs) rfl (HO.o.keeps ((Keeps.refl NoB _).alloc _) (fun _ _ f => f)) ⟨_, 0, none⟩ 1 1 [.int .u8 (m : Int)] rfl rfl (fun _ _ hj => new_one hj) one1 (by rw [bvs_length]; omega) (by rw [bvs_length]; omega) ?_)
          intro A3 c3 w3 HO3 HK3 HG3
          have HO3' := Sd.mk HO3
          have HK3' := Sd.mk HK3
          have HG3' := Sd.mk HG3
          clear HO3 HK3 HG3
          go_wp2
          go_roundg (gk1 - 1)
          case measure => omega
          case rel =>
            obtain ⟨zs', hzs'⟩ : ∃ zs', zs' = zs ++ [UInt8.ofNat m] := ⟨_, rfl⟩
            have hbv : bvs zs ++ [Value.int .u8 (m : Int)] = bvs zs' := by rw [hzs', bvs_append, UInt8.v1]; simp; omega
            have hl : (bvs zs).length + 1 = zs'.length := by rw [hzs', bvs_length]; simp
            rw [hbv, hl] at HO3'
            rw [hl] at HG3'
            rw [hl]
            have hl2 : zs'.length = zs.length + 1 := by rw [hzs']; simp
            exact ⟨k + 1, zs', A3, c3, by omega, by go_num, rfl, ⟨by rw [htk.o, putL_snoc, hzs', ← List.append_assoc, ← hys.o, hzs.o, put1_lt m h128]⟩, by omega, HO3', ⟨HK.o.grow HG.o ((Keeps.undoalloc HK3'.o))⟩, ⟨HG.o.grow HK.o (HG3'.o.undoalloc)⟩⟩
        · have hq2 : (128 : Int) ≤ (m : Int) := by omega
          go_wp2_with (at_builtin; go_must (refine app_row rfl _ _ 26 5 (.int .u8 0) 1 rfl Try.underlying26 infoU8' rfl (.slice A2 zs.length c2) (bvs zs) rfl (HO.o.keeps ((Keeps.refl NoB _).alloc _) (fun _ _ f => f)) ⟨_, 0, none⟩ 1 1 [.int .u8 (bits .or .u8 ((m : Int) % 256) 128)] rfl rfl (fun _ _ hj => new_one hj) one1 (by rw [bvs_length]; omega) (by rw [bvs_length]; omega) ?_))
          intro A3 c3 w3 HO3 HK3 HG3
          have HO3' := Sd.mk HO3
          have HK3' := Sd.mk HK3
          have HG3' := Sd.mk HG3
          clear HO3 HK3 HG3
          go_wp2
          go_roundg (gk - 1)
          case measure =>
            cases gk with
            | zero => have := hm.o; simp at this; omega
            | succ g => omega
          case rel =>
            obtain ⟨zs', hzs'⟩ : ∃ zs', zs' = zs ++ [UInt8.ofNat (m % 128 + 128)] := ⟨_, rfl⟩
            have hbv : bvs zs ++ [Value.int .u8 (bits .or .u8 ((m : Int) % 256) 128)] = bvs zs' := by rw [hzs', bvs_append, UInt8.v1, or128]
            have hl : (bvs zs).length + 1 = zs'.length := by rw [hzs', bvs_length]; simp
            rw [hbv, hl] at HO3'
            rw [hl] at HG3'
            rw [hl]
            refine ⟨m / 128, zs', A3, c3, by go_num, rfl, ⟨?_⟩, ⟨by rw [hzs', hzs.o, put1_ge m h128]; simp⟩, ⟨by have := hm64.o; omega⟩, HO3', ⟨HK.o.grow HG.o ((Keeps.undoalloc HK3'.o))⟩, ⟨HG.o.grow HK.o (HG3'.o.undoalloc)⟩⟩
            cases gk with
            | zero => have := hm.o; simp at this; omega
            | succ g =>
              have := hm.o
              rw [Nat.pow_succ] at this
              show m / 128 < 128 ^ g
              omega
    · have he : k = ns.length := by omega
      have hq : ¬ (k : Int) < (ns.length : Int) := by omega
      have hfin : Sd (ys = xs ++ putL ns) := ⟨by rw [hys.o, he, List.take_length]⟩
      clear he
      go_wp2
      go_ret
      have hl : ys.length = xs.length + (putL ns).length := by rw [hfin.o]; simp
      rw [← hl, ← hfin.o]
      exact ⟨A', c', rfl, HO.o, by rw [← HV.o]; exact HK.o, by rw [← HV.o]; exact HG.o⟩
end Go.Proofs.Ytdjamijbhaplgaa
