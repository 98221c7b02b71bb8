/- octet: PutInt, PutText. -/
import Derived.Test.YtdjamijbhaplgaaOctF
namespace Go.Proofs.Ytdjamijbhaplgaa
open Go.RowKit

def i64s (ns : List Int) : List Value := ns.map fun (n : Int) => Value.int .i64 n
theorem i64s_len (ns : List Int) : (i64s ns).length = ns.length := by simp [i64s]
theorem one_vrd {w : World} {u : Value} {e : TypeId} : VRd (w.alloc (.cells #[u] e)) (some ⟨w.heap.size, 0, none⟩) [u] := fun i hi => by
  cases i with
  | zero => exact ⟨w.heap.size, 0, rfl, by rw [blk_cell (heap_alloc_new w _)]; rfl⟩
  | succ i => simp at hi

def strs (l : List (List UInt8)) : List Value := l.map fun s => Value.string (sOf s)
theorem strs_len (l : List (List UInt8)) : (strs l).length = l.length := by simp [strs]
def sumLen (l : List (List UInt8)) : Nat := (l.map List.length).sum
theorem sumLen_snoc (l : List (List UInt8)) (s : List UInt8) : sumLen (l ++ [s]) = sumLen l + s.length := by simp [sumLen]
theorem sumLen_take_le (l : List (List UInt8)) (k : Nat) (h : k < l.length) : sumLen (l.take k) + l[k].length ≤ sumLen l := by
  have e : l = l.take k ++ l[k] :: l.drop (k + 1) := by rw [List.getElem_cons_drop, List.take_append_drop]
  have e2 : sumLen (l.take k ++ l[k] :: l.drop (k + 1)) = sumLen (l.take k) + (l[k].length + sumLen (l.drop (k + 1))) := by
    unfold sumLen
    rw [List.map_append, List.sum_append, List.map_cons, List.sum_cons]
  rw [← e] at e2
  omega

set_option maxHeartbeats 4000000 in
set_option maxRecDepth 100000 in
theorem puttext_any (w : World) (A : Option Addr) (c : Nat) (xs : List UInt8) (hown : OwnV w 5 (.slice A xs.length c) (bvs xs)) (l : List (List UInt8)) (A1 : Option Addr) (c1 : Nat)
    (hr : VRd w A1 (strs l)) (hoff : 0 < l.length → ∀ b o s, A1 = some ⟨b, o, s⟩ → ¬ ownB (.slice A xs.length c) b) (hsz : xs.length + 10 * l.length + sumLen l ≤ 140737488355328) :
    Calls Try.prog 41 #[.slice A xs.length c, .slice A1 l.length c1] w fun e w' => ∃ A' c', e = .returned (.slice A' (xs ++ putT l).length c') ∧ OwnV w' 5 (.slice A' (xs ++ putT l).length c') (bvs (xs ++ putT l)) ∧ Keeps (ownB (.slice A xs.length c)) w w' ∧ Grew w (.slice A xs.length c) (.slice A' (xs ++ putT l).length c') := by
  have HO := Sd.mk hown
  have HR := Sd.mk hr
  have HF := Sd.mk hoff
  obtain ⟨V, hV⟩ : ∃ V, V = Value.slice A xs.length c := ⟨_, rfl⟩
  have HV := Sd.mk hV
  clear hown hr hoff
  have hns : l.length ≤ 140737488355328 := by omega
  go_enter Try.func41, Try.ntmps41
  go_wp2_with fail
  go_loopg [0, 9] l.length (fun gk v i wr => ∃ (k : Nat) (ys : List UInt8) (A' : Option Addr) (c' : Nat), gk + k = l.length ∧ i = .int .i64 k ∧ v = .slice A' ys.length c' ∧ Sd (ys = xs ++ putT (l.take k)) ∧ ys.length ≤ xs.length + 10 * k + sumLen (l.take k) ∧ Sd (OwnV wr 5 (.slice A' ys.length c') (bvs ys)) ∧ Sd (Keeps (ownB V) w wr) ∧ Sd (Grew w V (.slice A' ys.length c')))
  case atStart => exact ⟨0, xs, A, c, rfl, rfl, rfl, ⟨by simp [putT]⟩, by omega, HO, ⟨Keeps.refl _ _⟩, ⟨by rw [hV]; exact Grew.refl _ _⟩⟩
  case round =>
    clear HO hV
    obtain ⟨k, ys, A', c', hk, rfl, rfl, hys, hyl, HO, HK, HG⟩ := hrel
    by_cases hlt : k < l.length
    · have hq : (k : Int) < (l.length : Int) := by omega
      obtain ⟨b1, o1, rfl, hc⟩ := HR.o k (by rw [strs_len]; exact hlt)
      have hc2 : wr.cell? ⟨b1, o1 + k, none⟩ = some (.string (sOf l[k])) := by
        have := HK.o.cell hc (by rw [HV.o]; exact HF.o (by omega) _ _ _ rfl)
        rw [this]; simp [strs]
      have hsum := sumLen_take_le l k hlt
      have htk : Sd (l.take (k + 1) = l.take k ++ [l[k]]) := ⟨by rw [List.take_succ_eq_append_getElem hlt]⟩
      clear hc
      generalize l[k] = s0 at *
      obtain ⟨S0, hS0⟩ : ∃ S0, S0 = sOf s0 := ⟨_, rfl⟩
      rw [← hS0] at hc2
      have hSs : S0.size = s0.length := by rw [hS0, sOf_size]
      have hSd : S0.data.toList = s0 := by rw [hS0]; rfl
      have HS := Sd.mk hSs
      have HD := Sd.mk hSd
      have hSle : S0.size ≤ 140737488355328 := by omega
      clear hSs hSd hS0
      go_wp2_with fail
      have hSlt : S0.size < 18446744073709551616 := by omega
      refine (put_any _ A' c' ys (HO.o.keeps ((Keeps.refl NoB _).alloc _) (fun _ _ f => f)) [S0.size] (by intro n hn; simp at hn; omega) _ 1 one_vrd ?_ (by have := HS.o; simp; omega)).mono ?_
      · rintro _ b o s he f
        cases he
        exact Nat.lt_irrefl _ (HO.o.lt _ f)
      rintro e w2 ⟨A3, c3, rfl, HO3, HK3, HG3⟩
      have h1 := put1_len10 S0.size hSlt
      obtain ⟨zs, hzs⟩ : ∃ zs, zs = ys ++ putL [S0.size] := ⟨_, rfl⟩
      rw [← hzs] at HO3 HG3 ⊢
      have e1 : putL [S0.size] = put1 S0.size := by simp [putL]
      rw [e1] at hzs
      have hzl : zs.length ≤ ys.length + 10 := by rw [hzs]; simp; omega
      have HZ := Sd.mk hzs
      have HO3' := Sd.mk HO3
      have HK3' := Sd.mk HK3
      have HG3' := Sd.mk HG3
      have hb3 : (bvs zs).length + S0.size ≤ 140737488355328 := by have := HS.o; rw [bvs_length]; omega
      clear HO3 HK3 HG3 hzs e1 h1 hSlt
      go_wp2_with (at_builtin; go_must (refine app_str rfl _ _ 26 9 5 rfl Try.underlying26 Try.underlying9 infoU8' (.slice A3 zs.length c3) (bvs zs) rfl HO3'.o S0 rfl hb3 ?_))
      intro A4 c4 w4 HO4 HK4 HG4
      have HO4' := Sd.mk HO4
      have HK4' := Sd.mk HK4
      have HG4' := Sd.mk HG4
      clear HO4 HK4 HG4
      go_wp2
      go_roundg (gk - 1)
      case measure => omega
      case rel =>
        have e2 : (bvs zs).length + S0.size = (zs ++ s0).length := by rw [bvs_length, HS.o]; simp
        rw [e2] at HO4' HG4' ⊢
        rw [HD.o, ← bvs_append] at HO4'
        have e3 : (zs ++ s0).length = zs.length + s0.length := by simp
        have hkk : Keeps (ownB V) w w2 := HK.o.grow HG.o HK3'.o.undoalloc
        have hgg : Grew w V (.slice A3 zs.length c3) := HG.o.grow HK.o HG3'.o.undoalloc
        exact ⟨k + 1, zs ++ s0, A4, c4, by omega, by go_num, rfl, ⟨by rw [htk.o, putT_snoc, HZ.o, HS.o, ← List.append_assoc, ← List.append_assoc, ← hys.o]⟩, by rw [htk.o, sumLen_snoc]; omega, HO4', ⟨hkk.grow hgg HK4'.o⟩, ⟨hgg.grow hkk HG4'.o⟩⟩
    · have he : k = l.length := by omega
      have hq : ¬ (k : Int) < (l.length : Int) := by omega
      have hfin : Sd (ys = xs ++ putT l) := ⟨by rw [hys.o, he, List.take_length]⟩
      clear he
      go_wp2
      go_ret
      have hl : ys.length = xs.length + (putT l).length := by rw [hfin.o]; simp
      rw [← hl, ← hfin.o]
      exact ⟨A', c', rfl, HO.o, by rw [← HV.o]; exact HK.o, by rw [← HV.o]; exact HG.o⟩
end Go.Proofs.Ytdjamijbhaplgaa
