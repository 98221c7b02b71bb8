/- live of the symtab's statements. -/
import Derived.Test.YtdjamijbhaplgaaSymH
import Derived.Deep.RegionHeld3
import Derived.Deep.RegionLaw
import Derived.Deep.DeepCutAuto
namespace Go.Proofs.Ytdjamijbhaplgaa
open Go.RowKit Go.Maps

theorem IsT.lt {w : World} {base b mb : Nat} {A : Option Addr} {c : Nat} {l : List (List UInt8)} (h : IsT w base b mb A c l) : ∀ i, TabB b mb (.slice A l.length c) i → i < w.heap.size := fun i f => by
  rcases f with f | f | f
  · rw [f]; exact (Array.getElem?_eq_some_iff.1 h.blk).1
  · rw [f]; exact h.map.lt
  · exact h.own.lt i f
theorem IsT.from {w : World} {base b mb : Nat} {A : Option Addr} {c : Nat} {l : List (List UInt8)} (h : IsT w base b mb A c l) : ∀ i, TabB b mb (.slice A l.length c) i → base ≤ i := fun i f => by
  rcases f with f | f | f
  · rw [f]; exact h.b0
  · rw [f]; exact h.m0
  · exact h.a0 i f
set_option maxHeartbeats 1000000 in
theorem intern_live (w : World) (base b mb : Nat) (A : Option Addr) (c : Nat) (h : IsT w base b mb A c [[]]) (hbase : base ≤ w.heap.size) (g : Nat) (hg : g = w.heap.size) (X : List UInt8) (hX : (addedL liveS [[]]).flatMap frameL = X) (hX2 : X.length = 20) :
    Calls Try.prog 5 #[.pointer (some ⟨b, 0, none⟩), .slice (some ⟨g, 0, none⟩) 4 4] (w.alloc (.cells #[.string ⟨#[97]⟩, .string ⟨#[]⟩, .string ⟨#[98]⟩, .string ⟨#[97]⟩] 9)) fun e w' => ∃ A' c' Ao co Ab cb,
      e = .returned (.tuple #[.slice Ao 4 co, .slice Ab 20 cb, .int .i64 0]) ∧ IsT w' base b mb A' c' [[], [97], [98]] ∧ OwnV w' 3 (.slice Ao 4 co) (ints [1, 0, 2, 1]) ∧ OwnV w' 5 (.slice Ab 20 cb) (bvs X) ∧ Keeps (FromB base) w w' := by
  have hT := h.kept ((Keeps.refl NoB w).alloc (.cells #[.string ⟨#[97]⟩, .string ⟨#[]⟩, .string ⟨#[98]⟩, .string ⟨#[97]⟩] 9))
  have hv : VRd (w.alloc (.cells #[.string ⟨#[97]⟩, .string ⟨#[]⟩, .string ⟨#[98]⟩, .string ⟨#[97]⟩] 9)) (some ⟨g, 0, none⟩) (strs liveS) := many_vrd (vs := strs liveS) (e := 9) hg
  have hc := intern_any _ base b mb A c [[]] hT (by simp; omega) (some ⟨g, 0, none⟩) 4 liveS hv (fun _ b1 o1 s1 e f => by
    cases e
    have := h.lt _ f
    omega) (by simp [liveS]) (by simp [liveS])
  refine hc.mono ?_
  rintro e w' ⟨hK, h1 | h1⟩
  · exact absurd (by decide) h1.1
  · obtain ⟨_, A', c', Ao, co, Ab, cb, rfl, hT', hO, hB, _⟩ := h1
    rw [hX, hX2] at *
    refine ⟨A', c', Ao, co, Ab, cb, rfl, live_in ▸ hT', live_out ▸ hO, hB, ?_⟩
    exact ((Keeps.refl NoB w).alloc _).trans hK (fun _ _ f => f.elim) (fun i hi f => h.from i f)

set_option maxHeartbeats 4000000 in
set_option maxRecDepth 100000 in
theorem slive_any (w : World) : Calls Try.prog 4 #[] w fun e w' => e = .returned (.bool true) ∧ Keeps NoB w w' := by
  obtain ⟨X, hX, hX2, hX3, hX4, hX5⟩ := live_all
  have HX := Sd.mk hX
  have HX3 := Sd.mk hX3
  have HX4 := Sd.mk hX4
  have HX5 := Sd.mk hX5
  have HX2 := Sd.mk hX2
  clear hX hX2 hX3 hX4 hX5
  go_enter Try.func4, Try.ntmps4
  go_wp2_with (go_at_call 18; refine (tnew_any _).mono ?_)
  rintro e w1 ⟨b, mb, A, c, rfl, hT, hK⟩
  have HT := Sd.mk hT
  have HK := Sd.mk hK
  have HS := Sd.mk hK.size
  clear hT hK
  go_wp2_with (go_at_call 5; go_must (refine (intern_live w1 _ b mb A c HT.o HS.o _ rfl X HX.o HX2.o).mono ?_))
  rintro e w2 ⟨A2, c2, Ao, co, Ab, cb, rfl, hT2, hO, hB, hK2⟩
  have HT2 := Sd.mk hT2
  have HO := Sd.mk hO.vrd
  have HB := Sd.mk hB
  have HK2 : Sd (Keeps NoB w w2) := ⟨HK.o.trans hK2 (fun _ _ f => f) (fun i hi f => absurd hi (Nat.not_lt.2 f))⟩
  clear hT2 hO hB hK2 HT HK HS
  go_wp2_with (go_at_call 7; go_must (refine (tsymbol_any w2 _ b mb A2 c2 _ HT2.o 2).mono ?_))
  rintro e w3 ⟨rfl, rfl⟩
  rw [show (symAt [[], [97], [98]] 2) = ([98], 0) from by decide]
  go_wp2_with (go_at_call 7; go_must (refine (tsymbol_any w2 _ b mb A2 c2 _ HT2.o 3).mono ?_))
  rintro e w3 ⟨rfl, rfl⟩
  rw [show (symAt [[], [97], [98]] 3) = ([], 50) from by decide]
  have hmx : max (0 : Int) 19 = 19 := by decide
  obtain ⟨i0, hi, hz0, hz1, hz2⟩ := info_parts infoU8
  have hbv := HB.o.vrd
  have hl20 : (20 : Nat) ≤ cb := hbv.2.1
  have hsp := hbv.2.2.2.2.1
  have hsli := slice_run_h 26 5 .i64 Try.underlying26 hi hz1 Ab 20 cb 19 (fun _ a ha => (hsp a ha).1) (by omega) w2 19 rfl
  have hb19 : Bts w2 (.slice Ab (X.take 19).length cb) (X.take 19) := by
    have := HB.o.bts
    rw [← HX2.o] at this
    have h2 := this.take 19 (by rw [HX2.o]; decide)
    rw [HX3.o]
    exact h2
  have HL := tload_any w2 Ab cb (X.take 19) hb19 (by rw [HX3.o]; decide)
  rw [HX3.o] at HL
  have HLs := Sd.mk HL
  clear hbv hb19 HL hi hz0 hz1 hz2 hsp
  go_wp2_with (go_at_call 19; go_must (refine HLs.o.mono ?_))
  rintro e w3 ⟨hK3, h1 | h1⟩
  · rw [HX4.o] at h1; exact absurd h1.1 (by simp)
  obtain ⟨l3, b3, mb3, A3, c3, hl3, rfl, hT3⟩ := h1
  rw [HX4.o] at hl3
  cases hl3
  rw [HX5.o]
  have HT3 := Sd.mk hT3
  have HK3 : Sd (Keeps NoB w w3) := ⟨HK2.o.then hK3⟩
  have HO3 : Sd (VRd w3 Ao (ints [1, 0, 2, 1])) := ⟨HO.o.2.2.2.2.2.keeps hK3 (fun _ _ _ _ f => f)⟩
  have HT4 := Sd.mk (HT2.o.kept hK3)
  clear hT3 hK3 HK2 HO HT2 HLs hsli hmx HX HX2 HX3 HX4 HX5 HB
  have hq1 : (sOf [98]).toList = [98] := by rw [sOf_toList]
  go_wp2_with (first | (go_at_call 12; refine (num_law _ _).mono ?_; rintro e w' ⟨rfl, rfl⟩) | fail)
  have HKA : Sd (Keeps NoB w3 (w3.alloc (.cells #[.int .i64 1, .int .i64 0, .int .i64 2, .int .i64 1] 3))) := ⟨(Keeps.refl NoB w3).alloc _⟩
  go_must (refine (rints_any (w3.alloc (.cells #[.int .i64 1, .int .i64 0, .int .i64 2, .int .i64 1] 3)) Ao (some ⟨w3.heap.size, 0, none⟩) co 4 [1, 0, 2, 1] [1, 0, 2, 1] (HO3.o.keeps HKA.o (fun _ _ _ _ f => f)) (many_vrd (vs := ints [1, 0, 2, 1]) rfl) (by decide) (by decide)).mono ?_)
  rintro e w4 ⟨rfl, n, rfl⟩
  have HK5 : Sd (Keeps NoB w ((w3.alloc (.cells #[.int .i64 1, .int .i64 0, .int .i64 2, .int .i64 1] 3)).drewN n)) := ⟨(HK3.o.alloc _).drewN _⟩
  have HT5 := Sd.mk (HT3.o.kept (HKA.o.drewN n))
  have HT6 := Sd.mk (HT4.o.kept (HKA.o.drewN n))
  clear HK3 HT3 HT4 HKA HO3
  generalize (w3.alloc (.cells #[.int .i64 1, .int .i64 0, .int .i64 2, .int .i64 1] 3)).drewN n = w5 at *
  rw [show decide ([1, 0, 2, 1] = ([1, 0, 2, 1] : List Nat)) = true from by decide]
  go_wp2_with (first | (go_at_call 12; refine (num_law _ _).mono ?_; rintro e w' ⟨rfl, rfl⟩) | (go_at_call 13; first | (with_reducible refine (tlen_any _ _ _ _ _ _ _ HT5.o).mono ?_; rintro e w' ⟨rfl, rfl⟩) | (with_reducible refine (tlen_any _ _ _ _ _ _ _ HT6.o).mono ?_; rintro e w' ⟨rfl, rfl⟩)))
  go_ret
  exact ⟨rfl, HK5.o⟩
end Go.Proofs.Ytdjamijbhaplgaa
