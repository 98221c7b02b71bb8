/- simfs: List, the names sorted. -/
import Derived.Test.YtlhhcoijkjcneaaGreatSimIt
import Derived.Test.YtlhhcoijkjcneaaGreatGl
import Derived.Test.YtlhhcoijkjcneaaGreatGg
import Derived.Test.YtlhhcoijkjcneaaGreatGi
import Derived.Test.YtlhhcoijkjcneaaGreatGa
namespace Go.Proofs.YtlhhcoijkjcneaaGreat
open Go.RowKit Go.Maps Go.Lib

theorem names_perm {w : World} {b : Nat} {d : Dir} {D : DataW Unit} {n : Nat} (ho : w.ownsMap Tryz.prog 9 (plainElem (H := Unit) Tryz.prog 3) b n D) (hr : NamesR D d) (hn : (d.map (·.1)).Nodup) : (d.map (·.1)).Perm (strKeys D) := by
  obtain ⟨es, rfl, hk⟩ := ho.keysOf
  obtain ⟨es', e, hp⟩ := ownsMap_tidy keyS ho
  cases e
  refine perm_strKeys hp (fun p hp => ?_) hn (fun x => ?_)
  · obtain ⟨key, hkey⟩ := hk p hp
    obtain ⟨x, _, e, _⟩ := Maps.keyOf_str Tryz.underlying9 hkey
    exact ⟨x, e⟩
  · rw [(hr.at_ x).1]
    constructor
    · intro h
      obtain ⟨e, he, rfl⟩ := List.mem_map.1 h
      rw [mem_lookup hn (show (e.1, e.2) ∈ d from he)]
      rfl
    · intro h
      obtain ⟨m, hm⟩ := Option.isSome_iff_exists.1 h
      exact List.mem_map.2 ⟨_, lookup_mem hm, rfl⟩

set_option maxHeartbeats 1000000 in
theorem list_fs (w : World) (m : FsMem) (s : FSt) (h : IsFS w m s) (hn : (s.D.map (·.1)).Nodup) (hD : s.D.length ≤ 4096) :
    Calls Tryz.prog 15 #[.pointer (some ⟨m.b, 0, none⟩)] w fun e w' => ∃ A c, e = .returned (.slice A s.list.length c) ∧ OwnV w' 9 (.slice A s.list.length c) (strs s.list) ∧ Fresh w (.slice A s.list.length c) ∧ Keeps NoB w w' := by
  obtain ⟨c0, c1, c2, c3, c4, c5, c6, c7, c8⟩ := h.c
  obtain ⟨D, hown, hr⟩ := h.names
  have hperm := names_perm hown hr hn
  have hsz := hr.size
  have hl : s.list.length = s.D.length := by unfold FSt.list; rw [(sortL_perm _).length_eq, List.length_map]
  have hmax : Maps.size D ≤ maxLen := by rw [hsz]; unfold maxLen; omega
  have hbytes : Maps.size D * 16 ≤ 140737488355328 := by rw [hsz]; omega
  have hfin : ∀ (ss : List (List UInt8)), ss.Perm (strKeys D) → ss.mergeSort (fun x y => decide (x ≤ y)) = s.list := fun ss hs => sortL_congr (hs.trans hperm.symm)
  refine (callsIn_wide (n := 6)).1 ?_
  have hfK : Fence.wide.fn 38 := trivial
  have hfS : Fence.wide.fn 37 := trivial
  refine callsIn_of_wp Tryz.func15 rfl trivial ?_ rfl
  simp only [Tryz.ntmps15, List.size_toArray, List.length_cons, List.length_nil, Nat.reduceAdd, Nat.reduceSub, Array.replicate_succ, Array.replicate_zero, List.push_toArray, List.append_toArray, List.nil_append, List.cons_append]
  gi_wp2_with (first
    | (gi_at_call 38; refine (Tryz.maps_Keys_38 _ _).mono ?_; rintro e w' ⟨rfl, rfl⟩)
    | (gi_at_call 37; refine (Tryz.slices_Sorted_keys_37_38 m.mn _ D _ w hown hmax hbytes).mono ?_; rintro e w' ⟨v, ss, rfl, hS, hrow, hnil, hb⟩))
  go_ret
  have hlen : (strs s.list).length = s.list.length := strs_len _
  have hss : ss.length = s.list.length := by rw [hl, hS.length_eq, ← hperm.length_eq, List.length_map]
  rw [hfin ss hS] at hrow
  have hown' : OwnV w' 9 v (strs s.list) := by
    unfold OwnV
    rw [hlen, ← hss]
    exact ownsRow_base_a hrow (Nat.zero_le _)
  obtain ⟨A, c, rfl⟩ := hown'.slice
  rw [hlen] at *
  refine ⟨A, c, rfl, hown', fun k hk => ?_, ((Keeps.refl NoB w).alloc _).then (Keeps.of_below hb NoB)⟩
  have := (World.ownsRow.lt hrow k hk).1
  simp at this
  omega
end Go.Proofs.YtlhhcoijkjcneaaGreat
namespace Go.Proofs.YtlhhcoijkjcneaaGreat
open Go.RowKit Go.Maps Go.Lib

theorem cv_own {w : World} {A : Option Addr} {n c : Nat} {xs : List UInt8} (h : OwnV w 5 (.slice A n c) (bvs xs)) : (convert 38 9 (.slice A n c)).run Tryz.prog w = .ok (.string (sOf xs)) w := by
  have hb := h.own.bts.rd
  have e := hb.1
  subst e
  exact conv_rd (P := Tryz.prog) w 38 5 9 Tryz.underlying38 Tryz.underlying5 Tryz.underlying9 A xs c hb.2.2.2.2.2
def SlAs (l : List (List UInt8)) (v : Value) (w : World) : Prop := ∃ A c, v = .slice A l.length c ∧ OwnV w 9 (.slice A l.length c) (strs l)

set_option maxHeartbeats 4000000 in
set_option maxRecDepth 100000 in
theorem tells_any (w : World) (m : FsMem) (rm : RMem) (s : FSt) (N : Nat) (h : IsFS w m s) (hr : IsRS w rm s) (inv : Inv N s) (hN : N ≤ 900000000) :
    Calls Tryz.prog 22 #[.pointer (some ⟨m.b, 0, none⟩), .pointer (some ⟨rm.b, 0, none⟩)] w fun e w' => e = .returned (.bool true) ∧ Keeps NoB w w' := by
  have hDl := inv.ok.len
  have hFl := inv.lim.files
  have hLl : s.list.length = s.D.length := by unfold FSt.list; rw [(sortL_perm _).length_eq, List.length_map]
  obtain ⟨Am, cm, hmv, _, _⟩ := OwnW.slice hr.moves
  obtain ⟨Af, cf, hfv, hcf1, hcf2⟩ := OwnW.slice hr.ptrs
  rw [List.length_map, hr.len] at hfv hcf1
  have HC : Sd (∀ wx, Keeps NoB w wx → wx.cell? ⟨rm.b, 7, none⟩ = some (.bool s.off) ∧ wx.cell? ⟨rm.b, 5, none⟩ = some (.int .i64 (s.ops : Nat)) ∧ wx.cell? ⟨rm.b, 4, none⟩ = some (.int .i64 s.cap) ∧ wx.cell? ⟨rm.b, 3, none⟩ = some (.slice Am s.M.length cm)) := ⟨fun wx hk => by
    obtain ⟨c0, c1, c2, c3, c4, c5, c6, c7, c8⟩ := (hr.kept hk).c
    rw [hmv] at c3
    exact ⟨c7, c5, c4, c3⟩⟩
  have HC0 : Sd (∀ wx, Keeps NoB w wx → wx.cell? ⟨rm.b, 0, none⟩ = some (.slice Af s.F.length cf)) := ⟨fun wx hk => by
    have c0 := (hr.kept hk).c.1
    rw [hfv] at c0
    exact c0⟩
  have H := Sd.mk h
  have HR := Sd.mk hr
  have HI := Sd.mk inv
  have HLL := Sd.mk hLl
  clear h hr inv hmv hfv hcf1 hcf2 hLl
  go_enter Tryz.func22, Tryz.ntmps22
  go_upto_region 1 with fail
  refine wp_region_flow_lit (R := Keeps NoB) (w0 := w) (fun w => Keeps.refl _ w) (fun _ _ _ h k => h.then k) (by kernel_rfl) (by kernel_rfl) (by first | exact (Keeps.refl _ _).drew | exact ((Keeps.refl _ _).drewN _).drew) ?_
  repeat (first
    | (apply flow_const
       · intro _; kernel_rfl
       · intro ss wx hR hF
         obtain ⟨c7, c5, c4, c3⟩ := HC.o wx hR
         clear hF
         unfold flowAt
         go_simp
         first
           | exact ⟨Keeps.refl _ _, rfl⟩
           | (simp only [flowUpon]
              first
                | (go_at_call 12
                   refine (dead_fs wx m s (H.o.kept hR)).mono ?_
                   rintro e w' ⟨rfl, rfl⟩
                   exact ⟨_, rfl, Keeps.refl _ _, rfl⟩)
                | (go_at_call 57
                   refine (opsn_fs wx m s (H.o.kept hR)).mono ?_
                   rintro e w' ⟨rfl, rfl⟩
                   exact ⟨_, rfl, Keeps.refl _ _, rfl⟩)
                | (go_at_call 60
                   refine (capacity_fs wx m s (H.o.kept hR)).mono ?_
                   rintro e w' ⟨rfl, rfl⟩
                   exact ⟨_, rfl, Keeps.refl _ _, rfl⟩)
                | (go_at_call 13
                   refine (waitdir_fs wx m s (H.o.kept hR)).mono ?_
                   rintro e w' ⟨rfl, rfl⟩
                   exact ⟨_, rfl, Keeps.refl _ _, rfl⟩)
                | (go_at_call 58
                   refine (used_fs wx m s (H.o.kept hR) HI.o.ok HI.o.files (by omega)).mono ?_
                   rintro e w' ⟨rfl, hk⟩
                   exact ⟨_, rfl, hk, rfl⟩)
                | (go_at_call 59
                   refine (rused_fs wx rm s (HR.o.kept hR) HI.o.ok HI.o.files (by omega)).mono ?_
                   rintro e w' ⟨rfl, hk⟩
                   exact ⟨_, rfl, hk, rfl⟩))
       intro K hK
       go_simp
       refine hK _ ?_
       clear hK K)
    | (apply flow_any (p := SlAs s.list)
       · intro _; kernel_rfl
       · rintro v wx wy _ hk ⟨A', c', e, ho⟩
         exact ⟨A', c', e, ho.keeps hk (fun _ _ f => f)⟩
       · intro ss wx hR hF
         clear hF
         unfold flowAt
         go_simp
         simp only [flowUpon]
         first
           | (go_at_call 15
              refine (list_fs wx m s (H.o.kept hR) HI.o.ok.dirD.names hDl).mono ?_
              rintro e w' ⟨A', c', rfl, ho, _, hk⟩
              exact ⟨_, rfl, hk, A', c', rfl, ho⟩)
           | (go_at_call 16
              refine (rlist_fs wx rm s (HR.o.kept hR) hDl).mono ?_
              rintro e w' ⟨A', c', rfl, ho, _, hk⟩
              exact ⟨_, rfl, hk, A', c', rfl, ho⟩)
       intro K hK
       go_simp
       refine hK _ ?_
       clear hK K)
    | (apply flow_const
       · intro _; kernel_rfl
       · intro ss wx hR hF
         obtain ⟨A1, c1, e1, ho1⟩ : SlAs s.list (ss 1) wx := hF 1 (by kernel_rfl)
         obtain ⟨A2, c2, e2, ho2⟩ : SlAs s.list (ss 3) wx := hF 3 (by kernel_rfl)
         clear hF
         unfold flowAt
         go_simp
         simp only [flowUpon]
         go_at_call 14
         refine (rtexts_any wx A1 A2 c1 c2 s.list s.list ho1.vrd.2.2.2.2.2 ho2.vrd.2.2.2.2.2 (by have := HLL.o; omega) (by have := HLL.o; omega)).mono ?_
         rintro e w' ⟨rfl, k, rfl⟩
         refine ⟨_, rfl, (Keeps.refl _ _).drewN k, ?_⟩
         rw [decide_eq_true rfl]
       intro K hK
       go_simp
       refine hK _ ?_
       clear hK K))
  refine flow_nil ?_
  intro ss w2 hk2 hF
  clear hF
  have HK2 := Sd.mk hk2
  clear hk2
  go_wp2_with fail
  go_loopg [5] (s.F.length + 3) (fun gk i wr => ∃ n : Int, (gk : Int) + n = (s.F.length : Int) + 2 ∧ i = .int .i64 n ∧ -1 ≤ n ∧ Sd (Keeps NoB w wr))
  case atStart => exact ⟨-1, by omega, rfl, by omega, HK2⟩
  case round =>
    clear HK2
    obtain ⟨n, hn, rfl, hn1, HK⟩ := hrel
    have c0 := HC0.o wr HK.o
    by_cases hlt : n ≤ (s.F.length : Int) + 1
    case neg =>
      go_wp2_with fail
      go_ret
      exact ⟨rfl, HK.o⟩
    obtain ⟨R, hR⟩ : ∃ R, R = s.size n := ⟨_, rfl⟩
    obtain ⟨Q, hQ⟩ : ∃ Q, Q = s.read n 0 20000 := ⟨_, rfl⟩
    obtain ⟨W, hW⟩ : ∃ W, W = s.waiting n := ⟨_, rfl⟩
    have HRR := Sd.mk hR
    have HQQ := Sd.mk hQ
    have HWW := Sd.mk hW
    clear hR hQ hW
    go_upto_region 10 with (first
      | (go_at_call 61; refine (size_fs wr m s N (H.o.kept HK.o) HI.o (by omega) n).mono ?_; rintro e w3 ⟨rfl, hk⟩; rw [← HRR.o]; have HK3 := Sd.mk (HK.o.then hk); clear hk)
      | (go_at_call 62; refine (rsize_fs w3 rm s N (HR.o.kept HK3.o) HI.o hN n).mono ?_; rintro e w4 ⟨rfl, hk⟩; rw [← HRR.o]; have HK4 := Sd.mk (HK3.o.then hk); clear hk)
      | (go_at_call 9; refine (read_fs w4 m s N (H.o.kept HK4.o) HI.o (by omega) n 0 20000 (by omega) (by omega) (by omega) (by omega)).mono ?_; rintro e w5 ⟨A5, c5, rfl, ho, _, hk⟩; rw [← HQQ.o] at ho; rw [← HQQ.o]; have HO5 := Sd.mk ho; have HK5 := Sd.mk (HK4.o.then hk); clear hk ho)
      | (go_at_call 63; refine (rread_fs w5 rm s N (HR.o.kept HK5.o) HI.o hN n 0 20000 (by omega) (by omega) (by omega) (by omega)).mono ?_; rintro e w6 ⟨rfl, hk⟩; rw [← HQQ.o]; have HO6 := Sd.mk (HO5.o.keeps hk (fun _ _ f => f)); have HK6 := Sd.mk (HK5.o.then hk); clear hk))
    have hcv := cv_own HO6.o
    go_wp2_with (first
      | (go_at_call 10; refine (num_law2 w6 _).mono ?_; rintro e w7 ⟨rfl, rfl⟩)
      | (go_at_call 27; refine (waiting_fs w6 m s (H.o.kept HK6.o) HI.o.ok (by omega) n).mono ?_; rintro e w7 ⟨rfl, hk⟩; rw [← HWW.o]; have HK7 := Sd.mk (HK6.o.then hk); clear hk)
      | (go_at_call 64; refine (rwaiting_fs w7 rm s N (HR.o.kept HK7.o) HI.o hN n).mono ?_; rintro e w8 ⟨rfl, hk⟩; rw [← HWW.o]; have HK8 := Sd.mk (HK7.o.then hk); clear hk))
    go_roundg (gk - 1)
    case measure => omega
    case rel => exact ⟨n + 1, by omega, by first | rfl | go_num, by omega, HK8⟩
end Go.Proofs.YtlhhcoijkjcneaaGreat
