/- octet: PutInt, PutText. -/
import Derived.Test.YtdjamijbhaplgaaGreatGkad
import Derived.Test.YtdjamijbhaplgaaGreatGkaa
namespace Go.Proofs.YtdjamijbhaplgaaGreat
open Go.RowKit

def i64s (ns : List Int) : List Value := ns.map fun (n : Int) => Value.int .i64 n
theorem i64s_len (ns : List Int) : (i64s ns).length = ns.length := by simp [i64s]
theorem one_vrd {w : World} {u : Value} {e : TypeId} : VRd (w.alloc (.cells #[u] e)) (some ⟨w.heap.size, 0, none⟩) [u] := fun i hi => by
  cases i with
  | zero => exact ⟨w.heap.size, 0, rfl, by rw [blk_cell (heap_alloc_new w _)]; rfl⟩
  | succ i => simp at hi

def sumLen (l : List (List UInt8)) : Nat := (l.map List.length).sum
theorem sumLen_snoc (l : List (List UInt8)) (s : List UInt8) : sumLen (l ++ [s]) = sumLen l + s.length := by simp [sumLen]
theorem sumLen_take_le (l : List (List UInt8)) (k : Nat) (h : k < l.length) : sumLen (l.take k) + l[k].length ≤ sumLen l := by
  have e : l = l.take k ++ l[k] :: l.drop (k + 1) := by rw [List.getElem_cons_drop, List.take_append_drop]
  have e2 : sumLen (l.take k ++ l[k] :: l.drop (k + 1)) = sumLen (l.take k) + (l[k].length + sumLen (l.drop (k + 1))) := by
    unfold sumLen
    rw [List.map_append, List.sum_append, List.map_cons, List.sum_cons]
  rw [← e] at e2
  omega

set_option maxHeartbeats 4000000 in
set_option maxRecDepth 100000 in
theorem puttext_any (w : World) (A : Option Addr) (c : Nat) (xs : List UInt8) (hown : OwnV w 5 (.slice A xs.length c) (bvs xs)) (l : List (List UInt8)) (A1 : Option Addr) (c1 : Nat)
    (hr : VRd w A1 (strs l)) (hoff : 0 < l.length → ∀ b o s, A1 = some ⟨b, o, s⟩ → ¬ ownB (.slice A xs.length c) b) (hsz : xs.length + 10 * l.length + sumLen l ≤ 140737488355328) :
    Calls Tryz.prog 99 #[.slice A xs.length c, .slice A1 l.length c1] w fun e w' => ∃ A' c', e = .returned (.slice A' (xs ++ putT l).length c') ∧ OwnV w' 5 (.slice A' (xs ++ putT l).length c') (bvs (xs ++ putT l)) ∧ Keeps (ownB (.slice A xs.length c)) w w' ∧ Grew w (.slice A xs.length c) (.slice A' (xs ++ putT l).length c') := by
  have HO := Sd.mk hown
  have HR := Sd.mk hr
  have HF := Sd.mk hoff
  obtain ⟨V, hV⟩ : ∃ V, V = Value.slice A xs.length c := ⟨_, rfl⟩
  have HV := Sd.mk hV
  clear hown hr hoff
  have hns : l.length ≤ 140737488355328 := by omega
  go_enter Tryz.func99, Tryz.ntmps99
  go_wp2_with fail
  go_loopg [0, 9] l.length (fun gk v i wr => ∃ (k : Nat) (ys : List UInt8) (A' : Option Addr) (c' : Nat), gk + k = l.length ∧ i = .int .i64 k ∧ v = .slice A' ys.length c' ∧ Sd (ys = xs ++ putT (l.take k)) ∧ ys.length ≤ xs.length + 10 * k + sumLen (l.take k) ∧ Sd (OwnV wr 5 (.slice A' ys.length c') (bvs ys)) ∧ Sd (Keeps (ownB V) w wr) ∧ Sd (Grew w V (.slice A' ys.length c')))
  case atStart => exact ⟨0, xs, A, c, rfl, rfl, rfl, ⟨by simp [putT]⟩, by omega, HO, ⟨Keeps.refl _ _⟩, ⟨by rw [hV]; exact Grew.refl _ _⟩⟩
  case round =>
    clear HO hV
    obtain ⟨k, ys, A', c', hk, rfl, rfl, hys, hyl, HO, HK, HG⟩ := hrel
    by_cases hlt : k < l.length
    · have hq : (k : Int) < (l.length : Int) := by omega
      obtain ⟨b1, o1, rfl, hc⟩ := HR.o k (by rw [strs_len]; exact hlt)
      have hc2 : wr.cell? ⟨b1, o1 + k, none⟩ = some (.string (sOf l[k])) := by
        have := HK.o.cell hc (by rw [HV.o]; exact HF.o (by omega) _ _ _ rfl)
        rw [this]; simp [strs]
      have hsum := sumLen_take_le l k hlt
      have htk : Sd (l.take (k + 1) = l.take k ++ [l[k]]) := ⟨by rw [List.take_succ_eq_append_getElem hlt]⟩
      clear hc
      generalize l[k] = s0 at *
      obtain ⟨S0, hS0⟩ : ∃ S0, S0 = sOf s0 := ⟨_, rfl⟩
      rw [← hS0] at hc2
      have hSs : S0.size = s0.length := by rw [hS0, sOf_size]
      have hSd : S0.data.toList = s0 := by rw [hS0]; rfl
      have HS := Sd.mk hSs
      have HD := Sd.mk hSd
      have hSle : S0.size ≤ 140737488355328 := by omega
      clear hSs hSd hS0
      go_wp2_with fail
      have hSlt : S0.size < 18446744073709551616 := by omega
      refine (put_any _ A' c' ys (HO.o.keeps ((Keeps.refl NoB _).alloc _) (fun _ _ f => f)) [S0.size] (by intro n hn; simp at hn; omega) _ 1 one_vrd ?_ (by have := HS.o; simp; omega)).mono ?_
      · rintro _ b o s he f
        cases he
        exact Nat.lt_irrefl _ (HO.o.lt _ f)
      rintro e w2 ⟨A3, c3, rfl, HO3, HK3, HG3⟩
      have h1 := put1_len10 S0.size hSlt
      obtain ⟨zs, hzs⟩ : ∃ zs, zs = ys ++ putL [S0.size] := ⟨_, rfl⟩
      rw [← hzs] at HO3 HG3 ⊢
      have e1 : putL [S0.size] = put1 S0.size := by simp [putL]
      rw [e1] at hzs
      have hzl : zs.length ≤ ys.length + 10 := by rw [hzs]; simp; omega
      have HZ := Sd.mk hzs
      have HO3' := Sd.mk HO3
      have HK3' := Sd.mk HK3
      have HG3' := Sd.mk HG3
      have hb3 : (bvs zs).length + S0.size ≤ 140737488355328 := by have := HS.o; rw [bvs_length]; omega
      clear HO3 HK3 HG3 hzs e1 h1 hSlt
      go_wp2_with (at_builtin; go_must (refine app_str rfl _ _ 49 9 5 rfl Tryz.underlying49 Tryz.underlying9 infoU8' (.slice A3 zs.length c3) (bvs zs) rfl HO3'.o S0 rfl hb3 ?_))
      intro A4 c4 w4 HO4 HK4 HG4
      have HO4' := Sd.mk HO4
      have HK4' := Sd.mk HK4
      have HG4' := Sd.mk HG4
      clear HO4 HK4 HG4
      go_wp2
      go_roundg (gk - 1)
      case measure => omega
      case rel =>
        have e2 : (bvs zs).length + S0.size = (zs ++ s0).length := by rw [bvs_length, HS.o]; simp
        rw [e2] at HO4' HG4' ⊢
        rw [HD.o, ← bvs_append] at HO4'
        have e3 : (zs ++ s0).length = zs.length + s0.length := by simp
        have hkk : Keeps (ownB V) w w2 := HK.o.grow HG.o HK3'.o.undoalloc
        have hgg : Grew w V (.slice A3 zs.length c3) := HG.o.grow HK.o HG3'.o.undoalloc
        exact ⟨k + 1, zs ++ s0, A4, c4, by omega, by go_num, rfl, ⟨by rw [htk.o, putT_snoc, HZ.o, HS.o, ← List.append_assoc, ← List.append_assoc, ← hys.o]⟩, by rw [htk.o, sumLen_snoc]; omega, HO4', ⟨hkk.grow hgg HK4'.o⟩, ⟨hgg.grow hkk HG4'.o⟩⟩
    · have he : k = l.length := by omega
      have hq : ¬ (k : Int) < (l.length : Int) := by omega
      have hfin : Sd (ys = xs ++ putT l) := ⟨by rw [hys.o, he, List.take_length]⟩
      clear he
      go_wp2
      go_ret
      have hl : ys.length = xs.length + (putT l).length := by rw [hfin.o]; simp
      rw [← hl, ← hfin.o]
      exact ⟨A', c', rfl, HO.o, by rw [← HV.o]; exact HK.o, by rw [← HV.o]; exact HG.o⟩
end Go.Proofs.YtdjamijbhaplgaaGreat
namespace Go.Proofs.YtdjamijbhaplgaaGreat
open Go.RowKit

set_option maxHeartbeats 4000000 in
set_option maxRecDepth 100000 in
theorem rput_any (w : World) (A : Option Addr) (c : Nat) (xs : List UInt8) (hown : OwnV w 5 (.slice A xs.length c) (bvs xs)) (n0 : Nat) (hn : n0 < 18446744073709551616) (hsz : xs.length + 10 ≤ 140737488355328) :
    Calls Tryz.prog 121 #[.slice A xs.length c, .int .u64 n0] w fun e w' => ∃ A' c', e = .returned (.slice A' (xs ++ put1 n0).length c') ∧ OwnV w' 5 (.slice A' (xs ++ put1 n0).length c') (bvs (xs ++ put1 n0)) ∧ Keeps (ownB (.slice A xs.length c)) w w' ∧ Grew w (.slice A xs.length c) (.slice A' (xs ++ put1 n0).length c') := by
  have HO := Sd.mk hown
  have HN := Sd.mk hn
  obtain ⟨V, hV⟩ : ∃ V, V = Value.slice A xs.length c := ⟨_, rfl⟩
  have HV := Sd.mk hV
  have hp0 := put1_len10 n0 hn
  clear hown hn
  go_enter Tryz.func121, Tryz.ntmps121
  go_wp2_with fail
  go_loopg [0, 1] 10 (fun gk2 v n wr2 => ∃ (m : Nat) (zs : List UInt8) (A2 : Option Addr) (c2 : Nat), n = .int .u64 m ∧ v = .slice A2 zs.length c2 ∧ Sd (m < 128 ^ gk2) ∧ Sd (xs ++ put1 n0 = zs ++ put1 m) ∧ Sd (m < 18446744073709551616) ∧ Sd (OwnV wr2 5 (.slice A2 zs.length c2) (bvs zs)) ∧ Sd (Keeps (ownB V) w wr2) ∧ Sd (Grew w V (.slice A2 zs.length c2)))
  case atStart => exact ⟨n0, xs, A, c, rfl, rfl, ⟨by have := HN.o; omega⟩, ⟨rfl⟩, HN, HO, ⟨Keeps.refl _ _⟩, ⟨by rw [hV]; exact Grew.refl _ _⟩⟩
  case round =>
    clear HO hV
    obtain ⟨m, zs, A2, c2, rfl, rfl, hm, hzs, hm64, HO, HK, HG⟩ := hrel
    have hzl := put1_sum hzs.o HN.o
    by_cases h128 : m < 128
    · have hq2 : ¬ (128 : Int) ≤ (m : Int) := by omega
      go_wp2_with (at_builtin; go_must (refine app_row rfl _ _ 49 5 (.int .u8 0) 1 rfl Tryz.underlying49 infoU8' rfl (.slice A2 zs.length c2) (bvs zs) rfl (HO.o.keeps ((Keeps.refl NoB _).alloc _) (fun _ _ f => f)) ⟨_, 0, none⟩ 1 1 [.int .u8 (m : Int)] rfl rfl (fun _ _ hj => new_one hj) one1 (by rw [bvs_length]; omega) (by rw [bvs_length]; omega) ?_))
      intro A3 c3 w3 HO3 HK3 HG3
      have HO3' := Sd.mk HO3
      have HK3' := Sd.mk HK3
      have HG3' := Sd.mk HG3
      clear HO3 HK3 HG3
      go_wp2
      go_ret
      have e1 : xs ++ put1 n0 = zs ++ [UInt8.ofNat m] := by rw [hzs.o, put1_lt m h128]
      have hbv : bvs zs ++ [Value.int .u8 (m : Int)] = bvs (zs ++ [UInt8.ofNat m]) := by rw [bvs_append, UInt8.v1]; simp; omega
      have hl : (bvs zs).length + 1 = (zs ++ [UInt8.ofNat m]).length := by rw [bvs_length]; simp
      rw [hbv, hl] at HO3'
      rw [hl] at HG3'
      rw [e1]
      exact ⟨A3, c3, by rw [← hl]; rfl, HO3'.o, by rw [← HV.o]; exact HK.o.grow HG.o HK3'.o.undoalloc, by rw [← HV.o]; exact HG.o.grow HK.o HG3'.o.undoalloc⟩
    · have hq2 : (128 : Int) ≤ (m : Int) := by omega
      go_wp2_with (at_builtin; go_must (refine app_row rfl _ _ 49 5 (.int .u8 0) 1 rfl Tryz.underlying49 infoU8' rfl (.slice A2 zs.length c2) (bvs zs) rfl (HO.o.keeps ((Keeps.refl NoB _).alloc _) (fun _ _ f => f)) ⟨_, 0, none⟩ 1 1 [.int .u8 _] rfl rfl (fun _ _ hj => new_one hj) one1 (by rw [bvs_length]; omega) (by rw [bvs_length]; omega) ?_))
      intro A3 c3 w3 HO3 HK3 HG3
      have HO3' := Sd.mk HO3
      have HK3' := Sd.mk HK3
      have HG3' := Sd.mk HG3
      clear HO3 HK3 HG3
      go_wp2
      go_roundg (gk - 1)
      case measure =>
        cases gk with
        | zero => have := hm.o; simp at this; omega
        | succ g => omega
      case rel =>
        obtain ⟨zs', hzs'⟩ : ∃ zs', zs' = zs ++ [UInt8.ofNat (m % 128 + 128)] := ⟨_, rfl⟩
        have hbv : bvs zs ++ [Value.int .u8 ((m : Int) % 128 + 128)] = bvs zs' := by rw [hzs', bvs_append, UInt8.v1]; simp; omega
        have hl : (bvs zs).length + 1 = zs'.length := by rw [hzs', bvs_length]; simp
        rw [hbv, hl] at HO3'
        rw [hl] at HG3'
        rw [hl]
        refine ⟨m / 128, zs', A3, c3, by rw [show (m : Int) / 128 = ((m / 128 : Nat) : Int) by omega, u64_nat _ (by have := hm64.o; omega)], rfl, ⟨?_⟩, ⟨by rw [hzs', hzs.o, put1_ge m h128]; simp⟩, ⟨by have := hm64.o; omega⟩, HO3', ⟨HK.o.grow HG.o ((Keeps.undoalloc HK3'.o))⟩, ⟨HG.o.grow HK.o (HG3'.o.undoalloc)⟩⟩
        cases gk with
        | zero => have := hm.o; simp at this; omega
        | succ g =>
          have := hm.o
          rw [Nat.pow_succ] at this
          show m / 128 < 128 ^ g
          omega

set_option maxHeartbeats 4000000 in
set_option maxRecDepth 100000 in
theorem rputtext_any (w : World) (A : Option Addr) (c : Nat) (xs : List UInt8) (hown : OwnV w 5 (.slice A xs.length c) (bvs xs)) (S : ByteArray) (hsz : xs.length + 10 + S.size ≤ 140737488355328) :
    Calls Tryz.prog 112 #[.slice A xs.length c, .string S] w fun e w' => ∃ A' c', e = .returned (.slice A' (xs ++ (put1 S.size ++ S.data.toList)).length c') ∧ OwnV w' 5 (.slice A' (xs ++ (put1 S.size ++ S.data.toList)).length c') (bvs (xs ++ (put1 S.size ++ S.data.toList))) ∧ Keeps (ownB (.slice A xs.length c)) w w' ∧ Grew w (.slice A xs.length c) (.slice A' (xs ++ (put1 S.size ++ S.data.toList)).length c') := by
  have HC := Sd.mk (rput_any w A c xs hown S.size (by omega) (by omega))
  have hSle : S.size ≤ 140737488355328 := by omega
  have h1 := put1_len10 S.size (by omega)
  clear hown
  go_enter Tryz.func112, Tryz.ntmps112
  go_wp2_with fail
  refine HC.o.mono ?_
  clear HC
  rintro e w2 ⟨A3, c3, rfl, HO3, HK3, HG3⟩
  obtain ⟨zs, hzs⟩ : ∃ zs, zs = xs ++ put1 S.size := ⟨_, rfl⟩
  rw [← hzs] at HO3 HG3 ⊢
  have hzl : zs.length ≤ xs.length + 10 := by rw [hzs]; simp; omega
  have HZ := Sd.mk hzs
  have HO3' := Sd.mk HO3
  have HK3' := Sd.mk HK3
  have HG3' := Sd.mk HG3
  clear HO3 HK3 HG3 hzs h1
  go_wp2_with (at_builtin; go_must (refine app_str rfl _ _ 49 9 5 rfl Tryz.underlying49 Tryz.underlying9 infoU8' (.slice A3 zs.length c3) (bvs zs) rfl HO3'.o S rfl (by rw [bvs_length]; omega) ?_))
  intro A4 c4 w4 HO4 HK4 HG4
  have HO4' := Sd.mk HO4
  have HK4' := Sd.mk HK4
  have HG4' := Sd.mk HG4
  clear HO4 HK4 HG4
  go_wp2
  go_ret
  have e1 : xs ++ (put1 S.size ++ S.data.toList) = zs ++ S.data.toList := by rw [HZ.o, List.append_assoc]
  have e2 : (bvs zs).length + S.size = (zs ++ S.data.toList).length := by rw [bvs_length, List.length_append, Array.length_toList]; rfl
  rw [e2] at HO4' HG4'
  rw [← bvs_append] at HO4'
  rw [e1]
  exact ⟨A4, c4, by rw [← e2]; rfl, HO4'.o, HK3'.o.grow HG3'.o HK4'.o, HG3'.o.grow HK3'.o HG4'.o⟩
end Go.Proofs.YtdjamijbhaplgaaGreat
namespace Go.Proofs.YtdjamijbhaplgaaGreat
open Go.RowKit

/-- Lists of bytes, read from A on. -/
def LRd (w : World) (A : Option Addr) (ls : List (List UInt8)) : Prop := ∃ vs : List Value, vs.length = ls.length ∧ VRd w A vs ∧ ∀ i (h : i < vs.length) (h' : i < ls.length), Bts w vs[i] ls[i]
theorem LRd.at_ {w : World} {A : Option Addr} {ls : List (List UInt8)} (h : LRd w A ls) (i : Nat) (hi : i < ls.length) :
    ∃ b o A1 c1, A = some ⟨b, o, none⟩ ∧ w.cell? ⟨b, o + i, none⟩ = some (.slice A1 ls[i].length c1) ∧ Bts w (.slice A1 ls[i].length c1) ls[i] := by
  obtain ⟨vs, hl, hv, hb⟩ := h
  obtain ⟨b, o, rfl, hc⟩ := hv i (by omega)
  have hb' := hb i (by omega) hi
  have hb2 := hb'
  obtain ⟨A1, c1, e, _⟩ := hb2
  refine ⟨b, o, A1, c1, rfl, by rw [hc, e], by rw [← e]; exact hb'⟩

set_option maxHeartbeats 4000000 in
set_option maxRecDepth 100000 in
theorem crc_any (w : World) (A : Option Addr) (c : Nat) (ls : List (List UInt8)) (hr : LRd w A ls) (hl : ls.length ≤ 140737488355328) :
    Calls Tryz.prog 114 #[.slice A ls.length c] w fun e w' => e = .returned (.int .u32 (crc ls.flatten)) ∧ w = w' := by
  have HR := Sd.mk hr
  clear hr
  go_enter Tryz.func114, Tryz.ntmps114
  go_wp2_with fail
  go_loopg [3, 10] ls.length (fun gk v i wr => ∃ (k : Nat) (s : Nat), gk + k = ls.length ∧ i = .int .i64 k ∧ v = .int .u32 s ∧ s < 4294967296 ∧ Sd (s = crcL 4294967295 (ls.take k).flatten) ∧ Sd (w = wr))
  case atStart => exact ⟨0, 4294967295, rfl, rfl, rfl, by decide, ⟨rfl⟩, ⟨rfl⟩⟩
  case round =>
    obtain ⟨k, s, hk, rfl, rfl, hs, hcs, ⟨rfl⟩⟩ := hrel
    by_cases hlt : k < ls.length
    · have hq : (k : Int) < (ls.length : Int) := by omega
      obtain ⟨b1, o1, A1, c1, rfl, hc, hb⟩ := HR.o.at_ k hlt
      have htk : Sd ((ls.take (k + 1)).flatten = (ls.take k).flatten ++ ls[k]) := ⟨flatten_take ls k hlt⟩
      generalize ls[k] = l0 at *
      have HB := Sd.mk hb.rd.2.2.2.2.2
      have hl0 : l0.length ≤ 9223372036854775807 := by have := hb.rd; unfold maxLen at this; omega
      clear hb
      obtain ⟨gk1, hgk1⟩ : ∃ g, g = gk := ⟨_, rfl⟩
      subst hgk1
      go_wp2_with fail
      go_loopg [3, 16] l0.length (fun gk v i wr => ∃ (k2 : Nat) (s2 : Nat), gk + k2 = l0.length ∧ i = .int .i64 k2 ∧ v = .int .u32 s2 ∧ s2 < 4294967296 ∧ Sd (s2 = crcL s (l0.take k2)) ∧ Sd (w = wr))
      case atStart => exact ⟨0, s, rfl, rfl, rfl, hs, ⟨rfl⟩, ⟨rfl⟩⟩
      case round =>
        obtain ⟨k2, s2, hk2, rfl, rfl, hs2, hcs2, ⟨rfl⟩⟩ := hrel
        by_cases hlt2 : k2 < l0.length
        · have hq2 : (k2 : Int) < (l0.length : Int) := by omega
          obtain ⟨b2, o2, rfl, hc2⟩ := HB.o k2 hlt2
          have hc2' : w.cell? ⟨b2, o2 + k2, none⟩ = some (.int .u8 (l0[k2].toNat : Int)) := hc2
          have htk2 : Sd (crcL s (l0.take (k2 + 1)) = crcByte (crcL s (l0.take k2)) l0[k2]) := ⟨crcL_take s l0 k2 hlt2⟩
          clear hc2
          generalize l0[k2] = x at *
          obtain ⟨gk2, hgk2⟩ : ∃ g, g = gk := ⟨_, rfl⟩
          subst hgk2
          have hx : x.toNat < 256 := x.toNat_lt
          have hxx : Sd (bits .xor .u32 (s2 : Int) (x.toNat : Int) = ((s2 ^^^ x.toNat : Nat) : Int)) := ⟨xor_u32 _ _ (by omega) (by omega)⟩
          have hsx := crcXor_lt s2 x hs2
          go_wp2_with fail
          go_loopg [3, 24] 8 (fun gk v i wr => ∃ (k3 : Nat) (s3 : Nat), gk + k3 = 8 ∧ i = .int .i64 k3 ∧ v = .int .u32 s3 ∧ s3 < 4294967296 ∧ Sd (s3 = crcIt k3 (s2 ^^^ x.toNat)) ∧ Sd (w = wr))
          case atStart => exact ⟨0, s2 ^^^ x.toNat, rfl, rfl, by rw [← hxx.o], hsx, ⟨rfl⟩, ⟨rfl⟩⟩
          case round =>
            obtain ⟨k3, s3, hk3, rfl, rfl, hs3, hcs3, ⟨rfl⟩⟩ := hrel
            by_cases hlt3 : k3 < 8
            · have hq3 : (k3 : Int) < 8 := by omega
              go_wp2
              go_roundg (gk - 1)
              case measure => omega
              case rel => exact ⟨k3 + 1, crcStep s3, by omega, by go_num, by rw [crc_prog s3 hs3], crcStep_lt _ hs3, ⟨by rw [crcIt_snoc, ← hcs3.o]⟩, ⟨rfl⟩⟩
            · have hq3 : ¬ (k3 : Int) < 8 := by omega
              have he3 : Sd (k3 = 8) := ⟨by omega⟩
              go_wp2
              go_roundg (gk2 - 1)
              case measure => omega
              case rel => exact ⟨k2 + 1, s3, by omega, by go_num, rfl, hs3, ⟨by rw [htk2.o, hcs3.o, he3.o, ← hcs2.o]; rfl⟩, ⟨rfl⟩⟩
        · have hq2 : ¬ (k2 : Int) < (l0.length : Int) := by omega
          have he2 : Sd (l0.take k2 = l0) := ⟨List.take_of_length_le (by omega)⟩
          go_wp2
          go_roundg (gk1 - 1)
          case measure => omega
          case rel => exact ⟨k + 1, s2, by omega, by go_num, rfl, hs2, ⟨by rw [htk.o, crcL_append, ← hcs.o, hcs2.o, he2.o]⟩, ⟨rfl⟩⟩
    · have hq : ¬ (k : Int) < (ls.length : Int) := by omega
      have he : Sd (ls.take k = ls) := ⟨List.take_of_length_le (by omega)⟩
      go_wp2
      go_ret
      refine ⟨ret_int ?_, rfl⟩
      have hf : s = crcL 4294967295 ls.flatten := by rw [hcs.o, he.o]
      refine (crc_not s hs).trans ?_
      rw [hf]; rfl

set_option maxHeartbeats 4000000 in
set_option maxRecDepth 100000 in
theorem rcrc_any (w : World) (A : Option Addr) (c : Nat) (l : List UInt8) (hr : Bts w (.slice A l.length c) l) :
    Calls Tryz.prog 119 #[.slice A l.length c] w fun e w' => e = .returned (.int .u32 (crc l)) ∧ w = w' := by
  have HR := Sd.mk hr.rd.2.2.2.2.2
  have hl : l.length ≤ 9223372036854775807 := by have := hr.rd; unfold maxLen at this; omega
  clear hr
  go_enter Tryz.func119, Tryz.ntmps119
  go_wp2_with fail
  go_loopg [3, 4] l.length (fun gk v i wr => ∃ (k2 : Nat) (s2 : Nat), gk + k2 = l.length ∧ i = .int .i64 k2 ∧ v = .int .u32 s2 ∧ s2 < 4294967296 ∧ Sd (s2 = crcL 4294967295 (l.take k2)) ∧ Sd (w = wr))
  case atStart => exact ⟨0, 4294967295, rfl, rfl, rfl, by decide, ⟨rfl⟩, ⟨rfl⟩⟩
  case round =>
    obtain ⟨k2, s2, hk2, rfl, rfl, hs2, hcs2, ⟨rfl⟩⟩ := hrel
    by_cases hlt2 : k2 < l.length
    · have hq2 : (k2 : Int) < (l.length : Int) := by omega
      obtain ⟨b2, o2, rfl, hc2⟩ := HR.o k2 hlt2
      have hc2' : w.cell? ⟨b2, o2 + k2, none⟩ = some (.int .u8 (l[k2].toNat : Int)) := hc2
      have htk2 : Sd (crcL 4294967295 (l.take (k2 + 1)) = crcByte (crcL 4294967295 (l.take k2)) l[k2]) := ⟨crcL_take _ l k2 hlt2⟩
      clear hc2
      generalize l[k2] = x at *
      obtain ⟨gk2, hgk2⟩ : ∃ g, g = gk := ⟨_, rfl⟩
      subst hgk2
      have hx : x.toNat < 256 := x.toNat_lt
      have hxx : Sd (bits .xor .u32 (s2 : Int) (x.toNat : Int) = ((s2 ^^^ x.toNat : Nat) : Int)) := ⟨xor_u32 _ _ (by omega) (by omega)⟩
      have hsx := crcXor_lt s2 x hs2
      go_wp2_with fail
      go_loopg [3, 5] 8 (fun gk v i wr => ∃ (k3 : Nat) (s3 : Nat), gk + k3 = 8 ∧ i = .int .i64 k3 ∧ v = .int .u32 s3 ∧ s3 < 4294967296 ∧ Sd (s3 = crcIt k3 (s2 ^^^ x.toNat)) ∧ Sd (w = wr))
      case atStart => exact ⟨0, s2 ^^^ x.toNat, rfl, rfl, by rw [← hxx.o], hsx, ⟨rfl⟩, ⟨rfl⟩⟩
      case round =>
        obtain ⟨k3, s3, hk3, rfl, rfl, hs3, hcs3, ⟨rfl⟩⟩ := hrel
        by_cases hlt3 : k3 < 8
        · have hq3 : (k3 : Int) < 8 := by omega
          by_cases hb : s3 % 2 = 1
          · have hand : bits .and .u32 (s3 : Int) 1 = 1 := by rw [and1_u32 s3 hs3, hb]; rfl
            have hst : Sd (bits .xor .u32 ((s3 : Int) / 2) 2197175160 = (crcStep s3 : Int)) := ⟨by
              have := xor_u32 (s3 / 2) 2197175160 (by omega) (by decide)
              rw [show ((2197175160 : Nat) : Int) = 2197175160 from rfl] at this
              rw [show ((s3 : Int) / 2) = ((s3 / 2 : Nat) : Int) by omega, this]
              unfold crcStep; rw [if_pos hb]; rfl⟩
            clear hb
            go_wp2
            go_roundg (gk - 1)
            case measure => omega
            case rel => exact ⟨k3 + 1, crcStep s3, by omega, by go_num, by rw [hst.o], crcStep_lt _ hs3, ⟨by rw [crcIt_snoc, ← hcs3.o]⟩, ⟨rfl⟩⟩
          · have hand : bits .and .u32 (s3 : Int) 1 = 0 := by rw [and1_u32 s3 hs3, show s3 % 2 = 0 by omega]; rfl
            have hst : Sd (((s3 : Int) / 2) = (crcStep s3 : Int)) := ⟨by unfold crcStep; rw [if_neg hb]; omega⟩
            clear hb
            go_wp2
            go_roundg (gk - 1)
            case measure => omega
            case rel => exact ⟨k3 + 1, crcStep s3, by omega, by go_num, by rw [← hst.o], crcStep_lt _ hs3, ⟨by rw [crcIt_snoc, ← hcs3.o]⟩, ⟨rfl⟩⟩
        · have hq3 : ¬ (k3 : Int) < 8 := by omega
          have he3 : Sd (k3 = 8) := ⟨by omega⟩
          go_wp2
          go_roundg (gk2 - 1)
          case measure => omega
          case rel => exact ⟨k2 + 1, s3, by omega, by go_num, rfl, hs3, ⟨by rw [htk2.o, hcs3.o, he3.o, ← hcs2.o]; rfl⟩, ⟨rfl⟩⟩
    · have hq2 : ¬ (k2 : Int) < (l.length : Int) := by omega
      have he2 : Sd (l.take k2 = l) := ⟨List.take_of_length_le (by omega)⟩
      go_wp2
      go_ret
      refine ⟨ret_int ?_, rfl⟩
      have hf : s2 = crcL 4294967295 l := by rw [hcs2.o, he2.o]
      refine (crc_not s2 hs2).trans ?_
      rw [hf]; rfl
end Go.Proofs.YtdjamijbhaplgaaGreat
namespace Go.Proofs.YtdjamijbhaplgaaGreat

def four (n : Nat) : List UInt8 := [UInt8.ofNat (n / 16777216), UInt8.ofNat (n / 65536), UInt8.ofNat (n / 256), UInt8.ofNat n]
def turned (n : Nat) : List UInt8 := [UInt8.ofNat n, UInt8.ofNat (n / 256), UInt8.ofNat (n / 65536), UInt8.ofNat (n / 16777216)]
def sealL (p : List UInt8) : List UInt8 := (four p.length ++ p) ++ turned (crc (four p.length ++ p))
/-- Four bytes as a number. -/
def be (p : List UInt8) : Nat := (p.getD 0 0).toNat * 16777216 + (p.getD 1 0).toNat * 65536 + (p.getD 2 0).toNat * 256 + (p.getD 3 0).toNat
/-- The frame in front: its load, its length, an error. -/
def openL (p : List UInt8) : List UInt8 × Nat × Int :=
  if p.length < 4 then ([], 0, 3)
  else if 1048576 < be p then ([], 0, 1)
  else if p.length < be p + 8 then ([], 0, 3)
  else if (p.drop (4 + be p)).take 4 = turned (crc (p.take (4 + be p))) then ((p.drop 4).take (be p), be p + 8, 0)
  else ([], 0, 12)
/-- The frames from a place on. -/
def framesGo : Nat → List UInt8 → Nat → List (List UInt8) → List (List UInt8) × Nat × Int
  | 0, _, at_, acc => (acc, at_, 0)
  | n + 1, p, at_, acc =>
    if at_ < p.length then
      if (openL (p.drop at_)).2.2 = 0 then framesGo n p (at_ + (openL (p.drop at_)).2.1) (acc ++ [(openL (p.drop at_)).1])
      else (acc, at_, (openL (p.drop at_)).2.2)
    else (acc, at_, 0)
def framesL (p : List UInt8) : List (List UInt8) × Nat × Int := framesGo (p.length + 1) p 0 []
theorem turned_len (n : Nat) : (turned n).length = 4 := rfl
theorem turned_at (n k : Nat) (hk : k < 4) : ((turned n)[k]'(by rw [turned_len]; exact hk)).toNat = n / 2 ^ (8 * k) % 256 := by
  match k, hk with
  | 0, _ => simp [turned]
  | 1, _ => simp [turned]
  | 2, _ => simp [turned]
  | 3, _ => simp [turned]
theorem take_snoc {α : Type} (l m : List α) (k : Nat) (hl : k < l.length) (hm : k < m.length) (h : l.take k = m.take k) (he : l[k] = m[k]) : l.take (k + 1) = m.take (k + 1) := by
  rw [List.take_succ_eq_append_getElem hl, List.take_succ_eq_append_getElem hm, h, he]
theorem ne_of_at {α : Type} (l m : List α) (k n : Nat) (hl : k < l.length) (hm : k < m.length) (hn : k < n) (hne : ¬ l[k] = m[k]) : ¬ l.take n = m := by
  intro e
  apply hne
  have h1 : (l.take n)[k]'(by simp; omega) = l[k] := by simp
  rw [← h1]
  simp only [e]
theorem openL_ok (p : List UInt8) (h : (openL p).2.2 = 0) : 8 ≤ (openL p).2.1 ∧ (openL p).2.1 ≤ p.length ∧ (openL p).1.length + 8 = (openL p).2.1 := by
  unfold openL at *
  split at h
  · simp at h
  rename_i h1
  rw [if_neg h1]
  split at h
  · simp at h
  rename_i h2
  rw [if_neg h2]
  split at h
  · simp at h
  rename_i h3
  rw [if_neg h3]
  split at h
  · rename_i h4
    rw [if_pos h4]
    simp
    omega
  · simp at h
end Go.Proofs.YtdjamijbhaplgaaGreat
