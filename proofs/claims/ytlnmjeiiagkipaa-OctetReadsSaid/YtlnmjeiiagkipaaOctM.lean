/- the statements' num and live. -/
import Derived.Test.YtlnmjeiiagkipaaOctL
import Derived.Lib.SmallJoins
namespace Go.Proofs.Ytlnmjeiiagkipaa
open Go.RowKit

set_option maxHeartbeats 400000 in
theorem num_law (w : World) (a : Int) : Calls Try.prog 11 #[.int .i64 a] w fun e w' => e = .returned (.int .i64 a) ∧ w = w' := by
  go_enter Try.func11, Try.ntmps11
  go_wp2
  go_ret
  exact ⟨rfl, rfl⟩

theorem l_put : ([] : List UInt8) ++ putL [300, 5] = [172, 2, 5] := by
  have e1 : put1 300 = [172, 2] := by rw [put1_ge 300 (by decide), put1_lt (300 / 128) (by decide)]; rfl
  have e2 : put1 5 = [5] := by rw [put1_lt 5 (by decide)]; rfl
  simp [putL, e1, e2]
theorem l_text : ([172, 2, 5] : List UInt8) ++ putT [[97, 98]] = [172, 2, 5, 2, 97, 98] := by
  have e1 : put1 2 = [2] := by rw [put1_lt 2 (by decide)]; rfl
  simp [putT, put1T, e1]
def lp : List UInt8 := [172, 2, 5, 2, 97, 98]
theorem l_n1 : RSt.num ⟨lp, 0, 0, 0⟩ = (300, ⟨lp, 2, 0, 0⟩) := by rfl
theorem l_n2 : RSt.num ⟨lp, 2, 0, 0⟩ = (5, ⟨lp, 3, 0, 0⟩) := by rfl
theorem l_t : RSt.text ⟨lp, 3, 0, 0⟩ 9 = ([97, 98], ⟨lp, 6, 0, 0⟩) := by rfl
theorem l_d : RSt.done ⟨lp, 6, 0, 0⟩ = 0 := by rfl
theorem l_fl : [([97] : List UInt8)].flatten = [97] := rfl
theorem l_all : ∃ sl : List UInt8, sealL [97] = sl ∧ sl.length = 9 ∧ (sl.take 8).length = 8 ∧ openL (sl.take 8) = ([], 0, 3) ∧ openL sl = ([97], 9, 0) :=
  ⟨sealL [97], rfl, by decide +kernel, by decide +kernel, by decide +kernel, by decide +kernel⟩
theorem l_crc : crc [49, 50, 51, 52, 53, 54, 55, 56, 57] = 3808858755 := by decide +kernel
theorem many_vrd {w : World} {vs : List Value} {e : TypeId} {g : Nat} (hg : g = w.heap.size) : VRd (w.alloc (.cells vs.toArray e)) (some ⟨g, 0, none⟩) vs := fun i hi => by
  subst hg
  exact ⟨w.heap.size, 0, rfl, by rw [blk_cell (heap_alloc_new w _)]; simp [hi]⟩

theorem convBs (w : World) (C : Array Value) (n c g : Nat) (hg : g = w.heap.size) :
    (convert 22 22 (.slice (some ⟨g, 0, none⟩) n c)).run Try.prog (w.alloc (.cells C 5)) = .ok (.slice (some ⟨g, 0, none⟩) n c) (w.alloc (.cells C 5 (C.size, C.size + 1))) :=
  Go.Joins.run_convert_bytes_const_at w _ _ C n c g hg Try.underlying22 Try.underlying5
theorem lit_bts {w : World} {g : Nat} {xs : List UInt8} {e : TypeId} {f : Nat × Nat} (h : w.heap[g]? = some (.cells (bvs xs).toArray e f)) (hl : xs.length ≤ 1000) : Bts w (.slice (some ⟨g, 0, none⟩) xs.length xs.length) xs :=
  ⟨some ⟨g, 0, none⟩, xs.length, rfl, Nat.le_refl _, by unfold maxLen; omega, (fun e => by cases e), (fun _ a ha => by cases ha; exact ⟨rfl, (Array.getElem?_eq_some_iff.1 h).1⟩), fun i hi => ⟨g, 0, rfl, by
    rw [blk_cell h]; simp [bvs, u8v, hi]⟩⟩

theorem two_lits (wa : World) : LRd (((wa.alloc (.cells #[Value.int .u8 49, .int .u8 50, .int .u8 51, .int .u8 52] 5 (4, 5))).alloc (.cells #[Value.int .u8 53, .int .u8 54, .int .u8 55, .int .u8 56, .int .u8 57] 5 (5, 6))).alloc (.cells #[.slice (some ⟨wa.heap.size, 0, none⟩) 4 4, .slice (some ⟨wa.heap.size + 1, 0, none⟩) 5 5] 22)) (some ⟨wa.heap.size + 1 + 1, 0, none⟩) [[49, 50, 51, 52], [53, 54, 55, 56, 57]] := by
  refine ⟨[.slice (some ⟨wa.heap.size, 0, none⟩) 4 4, .slice (some ⟨wa.heap.size + 1, 0, none⟩) 5 5], rfl, many_vrd (by simp), fun i hi hi' => ?_⟩
  match i, hi with
  | 0, _ =>
    have h1 := heap_alloc_new wa (.cells #[Value.int .u8 49, .int .u8 50, .int .u8 51, .int .u8 52] 5 (4, 5))
    have h2 := Keeps.obj ((Keeps.refl NoB _).alloc (.cells #[Value.int .u8 53, .int .u8 54, .int .u8 55, .int .u8 56, .int .u8 57] 5 (5, 6))) h1 (fun f => f)
    have h3 := Keeps.obj ((Keeps.refl NoB _).alloc (.cells #[.slice (some ⟨wa.heap.size, 0, none⟩) 4 4, .slice (some ⟨wa.heap.size + 1, 0, none⟩) 5 5] 22)) h2 (fun f => f)
    exact lit_bts (xs := [49, 50, 51, 52]) h3 (by decide)
  | 1, _ =>
    have h2 := heap_alloc_new (wa.alloc (.cells #[Value.int .u8 49, .int .u8 50, .int .u8 51, .int .u8 52] 5 (4, 5))) (.cells #[Value.int .u8 53, .int .u8 54, .int .u8 55, .int .u8 56, .int .u8 57] 5 (5, 6))
    have e : (wa.alloc (.cells #[Value.int .u8 49, .int .u8 50, .int .u8 51, .int .u8 52] 5 (4, 5))).heap.size = wa.heap.size + 1 := by simp
    rw [e] at h2
    have h3 := Keeps.obj ((Keeps.refl NoB _).alloc (.cells #[.slice (some ⟨wa.heap.size, 0, none⟩) 4 4, .slice (some ⟨wa.heap.size + 1, 0, none⟩) 5 5] 22)) h2 (fun f => f)
    exact lit_bts (xs := [53, 54, 55, 56, 57]) h3 (by decide)

set_option maxHeartbeats 400000 in
set_option maxRecDepth 100000 in
theorem live_any (w : World) : Calls Try.prog 12 #[] w fun e w' => e = .returned (.bool true) ∧ Keeps NoB w w' := by
  go_enter Try.func12, Try.ntmps12
  go_wp2_with fail
  refine (put_any _ none 0 [] (Own.nil _ 0).v [300, 5] (by decide) _ 2 (many_vrd (vs := u64s [300, 5]) rfl) (by intro _ b o s _ f; simp [ownB, Value.ownBlock] at f) (by simp)).mono ?_
  rw [l_put]
  rintro e w1 ⟨A1, c1, rfl, hO1, hK1, hG1⟩
  have HO1 := Sd.mk hO1
  have HK1 : Sd (Keeps NoB w w1) := ⟨(Keeps.undoalloc (hK1.mono (fun i _ f => by simp [ownB, Value.ownBlock] at f)))⟩
  have HF1 : Sd (Fresh w (.slice A1 [172, 2, 5].length c1)) := ⟨fun k hk => by
    rcases hG1 k hk with h | h
    · simp [Value.ownBlock] at h
    · simp at h; omega⟩
  clear hO1 hK1 hG1
  go_wp2_with fail
  refine (puttext_any _ A1 c1 [172, 2, 5] (HO1.o.keeps ((Keeps.refl NoB _).alloc _) (fun _ _ f => f)) [[97, 98]] _ 1 (one_vrd (u := .string (sOf [97, 98]))) ?_ (by decide)).mono ?_
  · rintro _ b o s he f
    cases he
    exact Nat.lt_irrefl _ (HO1.o.lt _ f)
  rw [l_text]
  rintro e w2 ⟨A2, c2, rfl, hO2, hK2, hG2⟩
  have HO2 := Sd.mk hO2
  have HK2 : Sd (Keeps NoB w w2) := ⟨HK1.o.fresh HF1.o hK2.undoalloc⟩
  clear hO2 hK2 hG2 HO1 HK1 HF1
  go_wp2_with fail
  refine (new_any _ A2 _ c2 [172, 2, 5, 2, 97, 98] HO2.o.bts (by decide)).mono ?_
  rintro e w3 ⟨b3, A3, c3, rfl, hI3, hB3, hb3, _⟩
  have HI3 := Sd.mk hI3
  have hcv : (convert 22 9 (.slice A2 6 c2)).run Try.prog w3 = .ok (.string ⟨#[172, 2, 5, 2, 97, 98]⟩) w3 := conv_rd (P := Try.prog) w3 22 5 9 Try.underlying22 Try.underlying5 Try.underlying9 A2 [172, 2, 5, 2, 97, 98] c2 (HO2.o.bts.below hB3).rd.2.2.2.2.2
  have HK3 : Sd (Keeps NoB w w3) := ⟨HK2.o.then (Keeps.of_below hB3 _)⟩
  have hn3 : ¬ w2.heap.size < 0 := by omega
  clear hI3 hB3 HO2
  go_wp2_with fail
  refine (num_some w3 b3 ⟨lp, 0, 0, 0⟩ A3 c3 HI3.o).mono ?_
  rw [l_n1]
  rintro e w4 ⟨rfl, hI4, hK4⟩
  have HI4 := Sd.mk hI4
  have HK4 := Sd.mk (HK3.o.trans hK4 (fun _ _ f => f) (fun i hi f => by cases f; have := HK2.o.size; omega) : Keeps NoB w w4)
  clear hI4 hK4 hcv HI3 HK3
  go_wp2_with fail
  refine (num_some w4 b3 ⟨lp, 2, 0, 0⟩ A3 c3 HI4.o).mono ?_
  rw [l_n2]
  rintro e w5 ⟨rfl, hI5, hK5⟩
  have HI5 := Sd.mk hI5
  have HK5 := Sd.mk (HK4.o.trans hK5 (fun _ _ f => f) (fun i hi f => by cases f; have := HK2.o.size; omega) : Keeps NoB w w5)
  clear hI5 hK5 HI4 HK4
  go_wp2_with fail
  refine (text_some w5 b3 ⟨lp, 3, 0, 0⟩ A3 c3 HI5.o 9 (by decide) (by decide)).mono ?_
  rw [l_t]
  rintro e w6 ⟨rfl, hI6, hK6⟩
  have HI6 := Sd.mk hI6
  have HK6 := Sd.mk (HK5.o.trans hK6 (fun _ _ f => f) (fun i hi f => by cases f; have := HK2.o.size; omega) : Keeps NoB w w6)
  clear hI6 hK6 HI5 HK5
  rw [show sOf ([97, 98], (⟨lp, 6, 0, 0⟩ : RSt)).1 = (⟨#[97, 98]⟩ : ByteArray) from rfl]
  go_wp2_with fail
  refine (done_some w6 b3 ⟨lp, 6, 0, 0⟩ A3 c3 HI6.o).mono ?_
  rw [l_d]
  rintro e w7 ⟨rfl, n7, rfl⟩
  clear HI6
  go_wp2_with fail
  refine (num_law _ _).mono ?_
  rintro e w7 ⟨rfl, rfl⟩
  have kc := convBs (w6.drewN n7) #[.int .u8 97] 1 1 w6.heap.size rfl
  go_wp2_with fail
  clear kc
  have hL8 : Bts ((w6.drewN n7).alloc (.cells #[.int .u8 97] 5 (1, 2))) (.slice (some ⟨w6.heap.size, 0, none⟩) 1 1) [97] := lit_bts (xs := [97]) (e := 5) (f := (1, 2)) (heap_alloc_new (w6.drewN n7) _) (by decide)
  have HB8 := Sd.mk (Keeps.trans (HK6.o.drewN n7) (Keeps.refl NoB _) (fun _ _ f => f) (fun _ _ f => f) : Keeps NoB w (w6.drewN n7))
  refine (seal_any _ _ 1 [[97]] (LRd.one_at (g := w6.heap.size + 1) (by simp) hL8 22) (by decide)).mono ?_
  clear hL8
  obtain ⟨sl, hsl, l_sl', l_tk, l_o1, l_o2⟩ := l_all
  rw [l_fl, hsl]
  have L1 := Sd.mk l_sl'
  have L2 := Sd.mk l_tk
  have L3 := Sd.mk l_o1
  have L4 := Sd.mk l_o2
  clear hsl l_sl' l_tk l_o1 l_o2
  rintro e w8 h8
  rcases h8 with ⟨h8, _, _⟩ | ⟨_, A8, c8, rfl, hO8, _, hK8⟩
  · simp at h8
  have HO8 : Sd (OwnV w8 5 (.slice A8 sl.length c8) (bvs sl)) := ⟨hO8⟩
  have HK8 := Sd.mk (((HB8.o.alloc _).alloc _).then hK8 : Keeps NoB w w8)
  clear hO8 hK8 HB8 HK6
  rw [L1.o] at HO8 ⊢
  obtain ⟨i0, hi, hz0, hz1, hz2⟩ := info_parts infoU8
  have hcap := HO8.o.vrd.2.1
  have hsp := HO8.o.vrd.2.2.2.2.1
  have hsl : (Instr.slice 22 (.slice A8 9 c8) none (some (.int .i64 8)) none).run Try.prog w8 = .ok (.slice A8 8 c8) w8 :=
    slice_run_h 22 5 .i64 Try.underlying22 hi hz1 A8 9 c8 8 (fun _ a ha => (hsp a ha).1) (by omega) w8 8 rfl
  clear hcap hsp hi hz0 hz1 hz2
  go_wp2_with fail
  clear hsl
  have hB9 := HO8.o.bts.take 8 (by rw [L1.o]; decide)
  have hop := open_any w8 A8 c8 (sl.take 8) (by rw [L2.o]; exact hB9) (by rw [L2.o]; decide)
  rw [L2.o, L3.o] at hop
  refine hop.mono ?_
  clear hB9 hop
  rintro e w9 ⟨A9, c9, rfl, _, _, hK9⟩
  have HO9 := Sd.mk (HO8.o.keeps hK9 (fun _ _ f => f))
  have HK9 := Sd.mk (HK8.o.then hK9)
  clear hK9 HO8 HK8
  go_wp2_with fail
  have hop := open_any w9 A8 c8 sl (by rw [L1.o]; exact HO9.o.bts) (by rw [L1.o]; decide)
  rw [L1.o, L4.o] at hop
  refine hop.mono ?_
  clear hop
  rintro e wa ⟨Aa, ca, rfl, hOa, _, hKa⟩
  have HKa := Sd.mk (HK9.o.then hKa)
  have hcv : (convert 22 9 (.slice Aa 1 ca)).run Try.prog wa = .ok (.string ⟨#[97]⟩) wa := conv_rd (P := Try.prog) wa 22 5 9 Try.underlying22 Try.underlying5 Try.underlying9 Aa [97] ca hOa.bts.rd.2.2.2.2.2
  clear hOa hKa HO9 HK9
  have kc1 := convBs wa #[.int .u8 49, .int .u8 50, .int .u8 51, .int .u8 52] 4 4 wa.heap.size rfl
  have kc2 := convBs (wa.alloc (.cells #[.int .u8 49, .int .u8 50, .int .u8 51, .int .u8 52] 5 (4, 5))) #[.int .u8 53, .int .u8 54, .int .u8 55, .int .u8 56, .int .u8 57] 5 5 (wa.heap.size + 1) (by simp)
  go_wp2_with (go_at_call 11; refine (num_law _ _).mono ?_; rintro e w' ⟨rfl, rfl⟩)
  clear kc1 kc2 hcv
  have hW := two_lits wa
  refine (crc_any _ (some ⟨wa.heap.size + 1 + 1, 0, none⟩) 2 [[49, 50, 51, 52], [53, 54, 55, 56, 57]] hW (by decide)).mono ?_
  clear hW
  rw [show [([49, 50, 51, 52] : List UInt8), [53, 54, 55, 56, 57]].flatten = [49, 50, 51, 52, 53, 54, 55, 56, 57] from rfl, l_crc]
  rintro e wb ⟨rfl, rfl⟩
  go_wp2_with fail
  go_ret
  exact ⟨rfl, ((HKa.o.alloc _).alloc _).alloc _⟩
end Go.Proofs.Ytlnmjeiiagkipaa
