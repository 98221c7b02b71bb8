/- symtab: Add and Sync of a table that stands in a file. -/
import Derived.Test.YtdjamijbhaplgaaGreatGkbe
import Derived.Test.YtdjamijbhaplgaaGreatChain
import Derived.Test.YtdjamijbhaplgaaGreatSymU
namespace Go.Proofs.YtdjamijbhaplgaaGreat
open Go.RowKit Go.Maps Go.Lib

section
variable {w w' : World} {base b mb : Nat} {A : Option Addr} {c : Nat} {ss l : List (List UInt8)} {e : Ending}
theorem internE_cases (ss l : List (List UInt8)) : (internE ss l = 50 ∧ ¬ ∀ s ∈ ss, mayL s = true) ∨ (internE ss l = 6 ∧ (∀ s ∈ ss, mayL s = true) ∧ 65536 < l.length + (addedL ss l).length) ∨ (internE ss l = 0 ∧ (∀ s ∈ ss, mayL s = true) ∧ l.length + (addedL ss l).length ≤ 65536) := by
  unfold internE
  by_cases h1 : ∀ s ∈ ss, mayL s = true
  · rw [if_neg (fun e => e h1)]
    by_cases h2 : 65536 < l.length + (addedL ss l).length
    · rw [if_pos h2]
      exact .inr (.inl ⟨rfl, h1, h2⟩)
    · rw [if_neg h2]
      exact .inr (.inr ⟨rfl, h1, by omega⟩)
  · rw [if_pos h1]
    exact .inl ⟨rfl, h1⟩
theorem intern_no (hE : internE ss l ≠ 0) (h : InternAll w base b mb A c ss l e w') : e = .returned (.tuple #[.slice none 0 0, .slice none 0 0, .int .i64 (internE ss l)]) ∧ Keeps NoB w w' := by
  obtain ⟨hk, h⟩ := h
  rcases internE_cases ss l with ⟨h1, h2⟩ | ⟨h1, h2, h3⟩ | ⟨h1, _⟩
  · rcases h with ⟨_, he, rfl⟩ | ⟨hm, _⟩ | ⟨hm, _⟩
    · rw [h1]; exact ⟨he, Keeps.refl _ _⟩
    · exact absurd hm h2
    · exact absurd hm h2
  · rcases h with ⟨hm, _⟩ | ⟨_, _, he, hk2⟩ | ⟨_, hm, _⟩
    · exact absurd h2 hm
    · rw [h1]; exact ⟨he, hk2⟩
    · omega
  · exact absurd h1 hE
theorem intern_yes (hE : internE ss l = 0) (h : InternAll w base b mb A c ss l e w') : ∃ A' c' Ao co Ab cb, e = .returned (.tuple #[.slice Ao (outL ss l).length co, .slice Ab ((addedL ss l).flatMap frameL).length cb, .int .i64 0]) ∧ IsT w' base b mb A' c' (internL ss l) ∧
      OwnV w' 3 (.slice Ao (outL ss l).length co) (ints (outL ss l)) ∧ OwnV w' 5 (.slice Ab ((addedL ss l).flatMap frameL).length cb) (bvs ((addedL ss l).flatMap frameL)) ∧ Fresh w (.slice Ao (outL ss l).length co) ∧ Fresh w (.slice Ab ((addedL ss l).flatMap frameL).length cb) ∧ Keeps (TabB b mb (.slice A l.length c)) w w' := by
  obtain ⟨hk, h⟩ := h
  rcases internE_cases ss l with ⟨h1, _⟩ | ⟨h1, _⟩ | ⟨_, h2, h3⟩
  · rw [h1] at hE; cases hE
  · rw [h1] at hE; cases hE
  · rcases h with ⟨hm, _⟩ | ⟨_, hm, _⟩ | ⟨_, _, A', c', Ao, co, Ab, cb, he, h4, h5, h6, h7, h8, _⟩
    · exact absurd h2 hm
    · omega
    · rw [← outL_len ss l] at he h5 h7
      exact ⟨A', c', Ao, co, Ab, cb, he, h4, h5, h6, h7, h8, hk⟩
end
/-- The worlds of a statement that calls one operation of the program's file system. -/
def adJ (w0 w2 : World) (T : Nat → Prop) (b rb : Nat) (s s' t : FSt) (n : Nat) (w : World) : Prop := HalfT w0 T b rb (if n = 0 then s else s') t w ∧ Keeps (offT w0 T) w2 w
theorem adJ.mk0 {w0 w2 : World} {T : Nat → Prop} {b rb : Nat} {s s' t : FSt} {w : World} (h : HalfT w0 T b rb s t w) (k : Keeps (offT w0 T) w2 w) : adJ w0 w2 T b rb s s' t 0 w := ⟨by rw [if_pos rfl]; exact h, k⟩
theorem adJ.mk1 {w0 w2 : World} {T : Nat → Prop} {b rb : Nat} {s s' t : FSt} {w : World} (h : HalfT w0 T b rb s' t w) (k : Keeps (offT w0 T) w2 w) : adJ w0 w2 T b rb s s' t 1 w := ⟨by rw [if_neg (by decide)]; exact h, k⟩
set_option maxHeartbeats 4000000 in
set_option maxRecDepth 100000 in
theorem tsync_any {w0 w : World} {T : Nat → Prop} {b rb N f tb mb : Nat} {A : Option Addr} {c : Nat} {n : Int} {l : List (List UInt8)} {s t : FSt} (h : HalfT w0 T b rb s t w) (ht : TabA w w0.heap.size b f tb mb A c n l) (hT : ∀ k, tabAB f tb mb A c l k → T k) (inv : Inv N s) (hN : N ≤ 800000000) :
    Calls Tryz.prog 22 #[.pointer (some ⟨f, 0, none⟩)] w fun e w' => e = .returned (.int .i64 (s.sync n).1) ∧ HalfT w0 T b rb (s.sync n).2 t w' ∧ Keeps (offT w0 T) w w' := by
  have H := Sd.mk h
  have HB := Sd.mk ht.blk
  have HTF : Sd (T f) := ⟨hT f (.inl rfl)⟩
  have HI := Sd.mk inv
  clear h ht hT inv
  go_enter Tryz.func22, Tryz.ntmps22
  go_upto_region 3 with fail
  have HJC : Sd (∀ k wx, adJ w0 w T b rb s (s.sync n).2 t k wx → wx.cell? ⟨f, 1, none⟩ = some (.pointer (some ⟨b, 0, none⟩)) ∧ wx.cell? ⟨f, 2, none⟩ = some (.int .i64 n)) := ⟨fun k wx hJ => by
    have hb := hJ.2.obj HB.o (fun e => e.1 HTF.o)
    exact ⟨blk_cell hb 1, blk_cell hb 2⟩⟩
  refine wp_region_chain (J := adJ w0 w T b rb s (s.sync n).2 t) (R := fun _ _ => True) [8] (fun _ => trivial) (by kernel_rfl) (by kernel_rfl) (by kernel_rfl) (adJ.mk0 (H.o.kept (Keeps.refl NoB _).drew) ((Keeps.refl _ w).drew)) ?_
  apply chain_const
  · intro _; kernel_rfl
  · rfl
  · intro ss wx n hJ hF
    obtain ⟨k1, k2⟩ := HJC.o n wx hJ
    clear hF
    unfold flowAt
    go_simp
    exact ⟨trivial, rfl, hJ⟩
  intro K hK
  go_simp
  refine hK _ ?_
  clear hK K
  apply chain_const
  · intro _; kernel_rfl
  · rfl
  · intro ss wx n hJ hF
    obtain ⟨k1, k2⟩ := HJC.o n wx hJ
    clear hF
    unfold flowAt
    go_simp
    exact ⟨trivial, rfl, hJ⟩
  intro K hK
  go_simp
  refine hK _ ?_
  clear hK K
  apply chain_const
  · intro _; kernel_rfl
  · rfl
  · intro ss wx n hJ hF
    obtain ⟨k1, k2⟩ := HJC.o n wx hJ
    clear hF
    unfold flowAt
    go_simp
    exact ⟨trivial, rfl, hJ⟩
  intro K hK
  go_simp
  refine hK _ ?_
  clear hK K
  apply chain_const
  · intro _; kernel_rfl
  · rfl
  · intro ss wx n hJ hF
    obtain ⟨k1, k2⟩ := HJC.o n wx hJ
    clear hF
    unfold flowAt
    go_simp
    exact ⟨trivial, rfl, hJ⟩
  intro K hK
  go_simp
  refine hK _ ?_
  clear hK K
  apply chain_const
  · intro _; kernel_rfl
  · rfl
  · intro ss wx n hJ hF
    obtain ⟨k1, k2⟩ := HJC.o n wx hJ
    clear hF
    unfold flowAt
    go_simp
    exact ⟨trivial, rfl, hJ⟩
  intro K hK
  go_simp
  refine hK _ ?_
  clear hK K
  apply chain_const
  · intro _; kernel_rfl
  · rfl
  · intro ss wx n hJ hF
    obtain ⟨k1, k2⟩ := HJC.o n wx hJ
    clear hF
    unfold flowAt
    go_simp
    exact ⟨trivial, rfl, hJ⟩
  intro K hK
  go_simp
  refine hK _ ?_
  clear hK K
  apply chain_const
  · intro _; kernel_rfl
  · rfl
  · intro ss wx n hJ hF
    obtain ⟨k1, k2⟩ := HJC.o n wx hJ
    clear hF
    unfold flowAt
    go_simp
    exact ⟨trivial, rfl, hJ⟩
  intro K hK
  go_simp
  refine hK _ ?_
  clear hK K
  apply chain_const
  · intro _; kernel_rfl
  · rfl
  · intro ss wx n hJ hF
    obtain ⟨k1, k2⟩ := HJC.o n wx hJ
    clear hF
    unfold flowAt
    go_simp
    exact ⟨trivial, rfl, hJ⟩
  intro K hK
  go_simp
  refine hK _ ?_
  clear hK K
  apply chain_step 0 (.int .i64 (s.sync n).1)
  · intro _; kernel_rfl
  · rfl
  · intro ss wx hJ hF
    have h9 := hJ
    obtain ⟨k1, k2⟩ := HJC.o 0 wx hJ
    have HH := Sd.mk h9
    clear hF hJ h9
    unfold flowAt
    go_simp
    simp only [flowUpon]
    go_at_call 46
    refine (xa_sync (by have h := HH.o.1; rw [if_pos rfl] at h; exact h) HI.o (by omega) n).mono ?_
    rintro e w' ⟨rfl, h1, h2⟩
    exact ⟨_, rfl, trivial, rfl, adJ.mk1 h1 (HH.o.2.trans h2 (fun _ _ f => f) (fun _ _ f => f))⟩
  intro K hK
  go_simp
  refine hK _ ?_
  clear hK K
  apply chain_const
  · intro _; kernel_rfl
  · rfl
  · intro ss wx n hJ hF
    obtain ⟨k1, k2⟩ := HJC.o n wx hJ
    clear hF
    unfold flowAt
    go_simp
    exact ⟨trivial, rfl, hJ⟩
  intro K hK
  go_simp
  refine hK _ ?_
  clear hK K
  apply chain_nil
  intro s2 w6 hJ6 hF
  have HJ6 : Sd (adJ w0 w T b rb s (s.sync n).2 t 1 w6) := ⟨hJ6⟩
  clear hF hJ6 HJC
  go_simp
  go_wp2_with fail
  go_ret
  have h6 := HJ6.o.1
  rw [if_neg (by decide)] at h6
  exact ⟨rfl, h6, HJ6.o.2⟩
/-- What Add of a File answers. -/
def AddP (w0 w : World) (T : Nat → Prop) (b rb f tb : Nat) (t : FSt) (n : Int) (out : List Nat) (R : Int × FSt × List (List UInt8)) (e : Ending) (w' : World) : Prop :=
  Keeps (fun i => offT w0 T i ∨ i = tb) w w' ∧ ∃ mb A c Ao co, e = .returned (.tuple #[.slice Ao (if R.1 = 0 then out else []).length co, .int .i64 R.1]) ∧ HalfT w0 (fun k => T k ∨ (Value.slice Ao (if R.1 = 0 then out else []).length co).ownBlock = some k ∨ tabAB f tb mb A c R.2.2 k) b rb R.2.1 t w' ∧ TabA w' w0.heap.size b f tb mb A c n R.2.2 ∧
    OwnV w' 3 (.slice Ao (if R.1 = 0 then out else []).length co) (ints (if R.1 = 0 then out else [])) ∧ ∀ k, (Value.slice Ao (if R.1 = 0 then out else []).length co).ownBlock = some k → w.heap.size ≤ k
theorem AddP.no {w0 w w' : World} {T : Nat → Prop} {b rb f tb mb : Nat} {A : Option Addr} {c : Nat} {s t : FSt} {n : Int} {out : List Nat} {l : List (List UInt8)} {E : Int} (hE : E ≠ 0) (hk : Keeps (offT w0 T) w w') (h : HalfT w0 T b rb s t w') (ht : TabA w' w0.heap.size b f tb mb A c n l) (hT : ∀ k, tabAB f tb mb A c l k → T k) :
    AddP w0 w T b rb f tb t n out (E, s, l) (.returned (.tuple #[.slice none 0 0, .int .i64 E])) w' := by
  unfold AddP
  dsimp only
  rw [if_neg hE]
  refine ⟨hk.mono (fun _ _ f => .inl f), mb, A, c, none, 0, rfl, h.less (fun i hi => hi.elim id (fun h => h.elim (fun e => by cases e) (hT i))), ht, ?_, fun k hk => by cases hk⟩
  exact World.ownsRow_nil _ _ _ _
/-- The copy becomes the table. -/
theorem AddP.yes {w0 w w' wy : World} {T : Nat → Prop} {b rb f tb b2 mb mb2 : Nat} {A A2 Ao : Option Addr} {c c2 co : Nat} {s t : FSt} {n : Int} {out : List Nat} {l l2 : List (List UInt8)} (hk : Keeps (offT w0 T) w w')
    (h : HalfT w0 (fun k => T k ∨ TabB b2 mb2 (.slice A2 l2.length c2) k ∨ (Value.slice Ao out.length co).ownBlock = some k) b rb s t w') (ht : TabA w' w0.heap.size b f tb mb A c n l) (hT : ∀ k, tabAB f tb mb A c l k → T k)
    (h2 : IsT w' w.heap.size b2 mb2 A2 c2 l2) (ho : OwnV w' 3 (.slice Ao out.length co) (ints out)) (hfo : Fresh w (.slice Ao out.length co)) (hs : w0.heap.size ≤ w.heap.size)
    (hwy : wy = ((w'.setCell ⟨tb, 0, none⟩ (.slice A2 l2.length c2)).setCell ⟨tb, 1, none⟩ (.map (some mb2))).drew) (htw : ∀ k, T k → k < w.heap.size) :
    AddP w0 w T b rb f tb t n out (0, s, l2) (.returned (.tuple #[.slice Ao out.length co, .int .i64 0])) wy := by
  have hF : Keeps (OneB tb) w' wy := by
    rw [hwy]
    exact (((Keeps.refl (OneB tb) w').setCell ⟨tb, 0, none⟩ _ (fun _ => rfl)).setCell ⟨tb, 1, none⟩ _ (fun _ => rfl)).drew
  have htT : T tb := hT tb (.inr (.inl rfl))
  have htlt := htw tb htT
  have hb : wy.heap[tb]? = some (.cells #[.slice A2 l2.length c2, .map (some mb2)] 131 (0, 0)) := by
    rw [hwy]
    exact blk_set (blk_set ht.tab.blk 0 _) 1 _
  have hne : ∀ i, i = tb → w.heap.size ≤ i → False := fun i e h => by omega
  have hft : f ≠ tb := fun e => by
    have h1 := ht.blk
    rw [e, ht.tab.blk] at h1
    cases h1
  have hT2 : IsT wy w0.heap.size tb mb2 A2 c2 l2 := by
    refine ⟨hb, h2.own.keeps hF (fun i hi (f : i = tb) => hne i f (h2.a0 i hi)), h2.map.keeps hF (fun (f : mb2 = tb) => hne mb2 f h2.m0), h2.ne, h2.sz, ht.tab.b0, Nat.le_trans hs h2.m0, fun i hi => Nat.le_trans hs (h2.a0 i hi)⟩
  have hsz : w'.heap.size ≤ wy.heap.size := hF.size
  unfold AddP
  dsimp only
  rw [if_pos rfl]
  refine ⟨(hk.mono (fun _ _ f => .inl f)).trans hF (fun _ _ f => f) (fun i _ f => .inr f), mb2, A2, c2, Ao, co, rfl, h.other hF (fun i hi => ?_) (fun i hi => ?_), ⟨hF.obj ht.blk (fun e => hft e), ht.f0, hT2⟩, ho.keeps hF (fun i hi (f : i = tb) => hne i f (hfo i hi)), hfo⟩
  · have e : i = tb := hi
    subst e
    exact ⟨.inl htT, ht.tab.b0⟩
  · have hlt : ∀ j, (T j ∨ TabB b2 mb2 (.slice A2 l2.length c2) j ∨ (Value.slice Ao out.length co).ownBlock = some j) → j < w'.heap.size := fun j hj => h.lt hj
    rcases hi with hi | hi | rfl | rfl | rfl | hi
    · exact ⟨.inl (.inl hi), Nat.lt_of_lt_of_le (hlt i (.inl hi)) hsz⟩
    · exact ⟨.inl (.inr (.inr hi)), Nat.lt_of_lt_of_le (hlt i (.inr (.inr hi))) hsz⟩
    · exact ⟨.inl (.inl (hT _ (.inl rfl))), Nat.lt_of_lt_of_le (hlt _ (.inl (hT _ (.inl rfl)))) hsz⟩
    · exact ⟨.inl (.inl htT), Nat.lt_of_lt_of_le (hlt _ (.inl htT)) hsz⟩
    · exact ⟨.inl (.inr (.inl (.inr (.inl rfl)))), Nat.lt_of_lt_of_le (hlt _ (.inr (.inl (.inr (.inl rfl))))) hsz⟩
    · exact ⟨.inl (.inr (.inl (.inr (.inr hi)))), Nat.lt_of_lt_of_le (hlt i (.inr (.inl (.inr (.inr hi))))) hsz⟩
set_option maxHeartbeats 8000000 in
set_option maxRecDepth 100000 in
theorem taddf_any {w0 w : World} {T : Nat → Prop} {b rb N f tb mb : Nat} {A : Option Addr} {c : Nat} {n : Int} {l : List (List UInt8)} {s t : FSt} (h : HalfT w0 T b rb s t w) (ht : TabA w w0.heap.size b f tb mb A c n l) (hT : ∀ k, tabAB f tb mb A c l k → T k) (g : GoodT l) (inv : Inv N s) (hN : N ≤ 800000000)
    (A1 : Option Addr) (c1 : Nat) (ss : List (List UInt8)) (hv : VRd w A1 (strs ss)) (hsz : ∀ s ∈ ss, s.length ≤ 140737488355328) (hsl : ss.length ≤ 65536) (hbl : ((addedL ss l).flatMap frameL).length ≤ 70368744177664) :
    Calls Tryz.prog 19 #[.pointer (some ⟨f, 0, none⟩), .slice A1 ss.length c1] w (AddP w0 w T b rb f tb t n (outL ss l) (s.addT n ss l)) := by
  have HIG : Sd (∀ w1 b2 mb2 A2 c2, IsT w1 w.heap.size b2 mb2 A2 c2 l → Keeps NoB w w1 → Calls Tryz.prog 27 #[.pointer (some ⟨b2, 0, none⟩), .slice A1 ss.length c1] w1 (InternAll w1 w.heap.size b2 mb2 A2 c2 ss l)) := ⟨fun w1 b2 mb2 A2 c2 t1 k1 =>
    intern_all w1 w.heap.size b2 mb2 A2 c2 l t1 k1.size A1 c1 ss (hv.keeps k1 (fun _ _ _ _ f => f)) (fun h0 b1 o1 s1 e hb => by
      obtain ⟨b5, o5, e5, hc⟩ := hv 0 (by rw [strs_len]; exact h0)
      rw [e] at e5
      cases e5
      have h1 := World.block_lt_of_cell? w _ hc
      have h2 := t1.from _ hb
      simp at h1
      omega) hsz g.len hsl⟩
  have HCP := Sd.mk (tcopy_any w w0.heap.size tb mb A c l ht.tab g)
  have H := Sd.mk h
  have HA := Sd.mk ht
  have HT := Sd.mk hT
  have HI := Sd.mk inv
  have p0 := blk_cell ht.blk 0
  have HTW := Sd.mk (fun k (hk : T k) => h.lt hk)
  obtain ⟨R, hR⟩ : ∃ R, R = s.addT n ss l := ⟨_, rfl⟩
  rw [← hR]
  unfold FSt.addT at hR
  clear h ht hT inv hv hsz g
  by_cases hE : internE ss l = 0
  case neg =>
    rw [if_pos hE] at hR
    have HE := Sd.mk hE
    obtain ⟨E, hEE⟩ : ∃ E, E = internE ss l := ⟨_, rfl⟩
    have HEE := Sd.mk hEE
    have hE0 : E ≠ 0 := by rw [hEE]; exact hE
    rw [← hEE] at hR
    have HF : Sd (R = (E, s, l) ∧ E ≠ 0) := ⟨hR, hE0⟩
    have hb1 : (E == 0) = false := by simpa using hE0
    have hb2 : (E != 0) = true := by simpa using hE0
    clear hR hE hEE hE0
    go_enter Tryz.func19, Tryz.ntmps19
    go_wp2_with (first
      | (go_at_call 55; refine HCP.o.mono ?_; rintro e w1 ⟨b2, mb2, A2, c2, rfl, t1, k1⟩; have HIN := Sd.mk (HIG.o w1 b2 mb2 A2 c2 t1 k1); have K1 := Sd.mk k1; have T1 := Sd.mk t1; clear t1 k1)
      | (go_at_call 27; refine (HIN.o.mono fun e w' hp => intern_no HE.o hp).mono ?_; rw [← HEE.o]; rintro e w2 ⟨rfl, k2⟩; have K2 := Sd.mk (K1.o.then k2); clear k2))
    go_ret2
    obtain ⟨q1, q2⟩ := HF.o
    subst q1
    exact AddP.no q2 (K2.o.mono (fun _ _ f => f.elim)) (H.o.kept K2.o) (HA.o.kept K2.o) HT.o
  rw [if_neg (fun e => e hE)] at hR
  have HE := Sd.mk hE
  clear hE
  obtain ⟨X, hX⟩ : ∃ X, X = (addedL ss l).flatMap frameL := ⟨_, rfl⟩
  obtain ⟨O, hO⟩ : ∃ O, O = outL ss l := ⟨_, rfl⟩
  obtain ⟨L2, hL⟩ : ∃ L2, L2 = internL ss l := ⟨_, rfl⟩
  have HX := Sd.mk hX
  have HO := Sd.mk hO
  have HL := Sd.mk hL
  rw [← hX, ← hL] at hR
  rw [← hX] at hbl
  rw [← hO]
  clear hX hO hL
  have hws : w0.heap.size ≤ w.heap.size := H.o.keeps.size
  by_cases hx : X.length = 0
  · rw [if_pos hx] at hR
    have HF : Sd (R = (0, s, L2)) := ⟨hR⟩
    have hq : ¬ (0 : Int) < (X.length : Int) := by omega
    clear hR hx hbl
    go_enter Tryz.func19, Tryz.ntmps19
    go_upto_region 9 with (first
      | (go_at_call 55; refine HCP.o.mono ?_; rintro e w1 ⟨b2, mb2, A2, c2, rfl, t1, k1⟩; have HIN := Sd.mk (HIG.o w1 b2 mb2 A2 c2 t1 k1); have K1 := Sd.mk k1; have T1 := Sd.mk t1; clear t1 k1)
      | (go_at_call 27; refine (HIN.o.mono fun e w' hp => intern_yes HE.o hp).mono ?_; rw [← HX.o, ← HO.o, ← HL.o]; rintro e w2 ⟨A3, c3, Ao, co, Ab, cb, rfl, t2, o2, x2, fo, fx, k2⟩; have K2 : Sd (Keeps NoB w w2) := ⟨K1.o.late k2 (fun i hi => T1.o.from i hi)⟩; have T2 := Sd.mk t2; have O2 := Sd.mk o2; have X2 := Sd.mk x2; have FO : Sd (Fresh w (.slice Ao O.length co)) := ⟨fun i hi => Nat.le_trans K1.o.size (fo i hi)⟩; have FX : Sd (Fresh w (.slice Ab X.length cb)) := ⟨fun i hi => Nat.le_trans K1.o.size (fx i hi)⟩; clear t2 o2 x2 fo fx k2))
    have HAa := Sd.mk (HA.o.kept K2.o)
    have HTa := Sd.mk T2.o
    have HH : Sd (HalfT w0 (fun k => T k ∨ TabB b2 mb2 (.slice A3 L2.length c3) k ∨ (Value.slice Ao O.length co).ownBlock = some k) b rb s t w2) := ⟨H.o.other K2.o (fun _ f => f.elim) (fun i hi => by
      rcases hi with hi | hi | hi
      · exact ⟨.inl hi, Nat.lt_of_lt_of_le (HTW.o i hi) K2.o.size⟩
      · exact ⟨.inr (T2.o.from i hi), T2.o.lt i hi⟩
      · exact ⟨.inr (FO.o i hi), O2.o.lt i hi⟩)⟩
    have hAa := HAa.o
    have pf0 := blk_cell hAa.blk 0
    have ct0 := blk_cell hAa.tab.blk 0
    have ct1 := blk_cell hAa.tab.blk 1
    have ft0 := blk_frozen hAa.tab.blk 0
    have ft1 := blk_frozen hAa.tab.blk 1
    have pb0 := blk_cell HTa.o.blk 0
    have pb1 := blk_cell HTa.o.blk 1
    clear hAa
    go_region
    all_goals (
      go_wp2_with fail
      go_ret2
      obtain ⟨rfl⟩ := HF
      exact AddP.yes (K2.o.mono (fun _ _ f => f.elim)) HH.o HAa.o HT.o T2.o O2.o FO.o hws rfl HTW.o)
  rw [if_neg hx] at hR
  have hq : (0 : Int) < (X.length : Int) := by omega
  obtain ⟨C, hC⟩ : ∃ C, C = s.append n X := ⟨_, rfl⟩
  have HC := Sd.mk hC
  rw [← hC] at hR
  clear hC hx
  by_cases hc : C.1 = 0
  case neg =>
    rw [if_pos hc] at hR
    have HF : Sd (R = (C.1, C.2, l) ∧ C.1 ≠ 0) := ⟨hR, hc⟩
    have hb2 : (C.1 != 0) = true := by simpa using hc
    clear hR hc
    go_enter Tryz.func19, Tryz.ntmps19
    go_upto_region 6 with (first
      | (go_at_call 55; refine HCP.o.mono ?_; rintro e w1 ⟨b2, mb2, A2, c2, rfl, t1, k1⟩; have HIN := Sd.mk (HIG.o w1 b2 mb2 A2 c2 t1 k1); have K1 := Sd.mk k1; have T1 := Sd.mk t1; clear t1 k1)
      | (go_at_call 27; refine (HIN.o.mono fun e w' hp => intern_yes HE.o hp).mono ?_; rw [← HX.o, ← HO.o, ← HL.o]; rintro e w2 ⟨A3, c3, Ao, co, Ab, cb, rfl, t2, o2, x2, fo, fx, k2⟩; have K2 : Sd (Keeps NoB w w2) := ⟨K1.o.late k2 (fun i hi => T1.o.from i hi)⟩; have T2 := Sd.mk t2; have O2 := Sd.mk o2; have X2 := Sd.mk x2; have FO : Sd (Fresh w (.slice Ao O.length co)) := ⟨fun i hi => Nat.le_trans K1.o.size (fo i hi)⟩; have FX : Sd (Fresh w (.slice Ab X.length cb)) := ⟨fun i hi => Nat.le_trans K1.o.size (fx i hi)⟩; clear t2 o2 x2 fo fx k2))
    have HH : Sd (HalfT w0 (fun k => T k ∨ TabB b2 mb2 (.slice A3 L2.length c3) k ∨ (Value.slice Ao O.length co).ownBlock = some k ∨ (Value.slice Ab X.length cb).ownBlock = some k) b rb s t w2) := ⟨H.o.other K2.o (fun _ f => f.elim) (fun i hi => by
      rcases hi with hi | hi | hi | hi
      · exact ⟨.inl hi, Nat.lt_of_lt_of_le (HTW.o i hi) K2.o.size⟩
      · exact ⟨.inr (T2.o.from i hi), T2.o.lt i hi⟩
      · exact ⟨.inr (FO.o i hi), O2.o.lt i hi⟩
      · exact ⟨.inr (FX.o i hi), X2.o.lt i hi⟩)⟩
    have HAP : Sd (∀ wx, adJ w0 w2 (fun k => T k ∨ TabB b2 mb2 (.slice A3 L2.length c3) k ∨ (Value.slice Ao O.length co).ownBlock = some k ∨ (Value.slice Ab X.length cb).ownBlock = some k) b rb s C.2 t 0 wx → Calls Tryz.prog 15 #[.pointer (some ⟨b, 0, none⟩), .int .i64 n, .slice Ab X.length cb] wx fun e w' => e = .returned (.int .i64 C.1) ∧ adJ w0 w2 (fun k => T k ∨ TabB b2 mb2 (.slice A3 L2.length c3) k ∨ (Value.slice Ao O.length co).ownBlock = some k ∨ (Value.slice Ab X.length cb).ownBlock = some k) b rb s C.2 t 1 w') :=
      ⟨fun wx hJ => by
        have h0 := hJ.1
        rw [if_pos rfl] at h0
        have hc := xa_append h0 HI.o (by omega) n Ab cb X (X2.o.keeps hJ.2 (fun i hi f => f.1 (.inr (.inr (.inr hi))))).own.bts hbl
        rw [← HC.o] at hc
        exact hc.mono fun e w' ⟨he, h1, h2⟩ => ⟨he, adJ.mk1 h1 (hJ.2.trans h2 (fun _ _ f => f) (fun _ _ f => f))⟩⟩
    have HBf := Sd.mk (HA.o.kept K2.o).blk
    have HJC : Sd (∀ k wx, adJ w0 w2 (fun k => T k ∨ TabB b2 mb2 (.slice A3 L2.length c3) k ∨ (Value.slice Ao O.length co).ownBlock = some k ∨ (Value.slice Ab X.length cb).ownBlock = some k) b rb s C.2 t k wx → wx.cell? ⟨f, 1, none⟩ = some (.pointer (some ⟨b, 0, none⟩)) ∧ wx.cell? ⟨f, 2, none⟩ = some (.int .i64 n)) := ⟨fun k wx hJ => by
      have hb := hJ.2.obj HBf.o (fun e => e.1 (.inl (HT.o f (.inl rfl))))
      exact ⟨blk_cell hb 1, blk_cell hb 2⟩⟩
    generalize hTT : (fun k => T k ∨ TabB b2 mb2 (.slice A3 L2.length c3) k ∨ (Value.slice Ao O.length co).ownBlock = some k ∨ (Value.slice Ab X.length cb).ownBlock = some k) = TT at *
    have HTT := Sd.mk hTT
    clear hTT
    refine wp_region_chain (J := adJ w0 w2 TT b rb s C.2 t) (R := fun _ _ => True) [9] (fun _ => trivial) (by kernel_rfl) (by kernel_rfl) (by kernel_rfl) (adJ.mk0 (HH.o.kept (Keeps.refl NoB _).drew) ((Keeps.refl _ w2).drew)) ?_
    apply chain_const
    · intro _; kernel_rfl
    · rfl
    · intro ss wx n hJ hF
      obtain ⟨k1, k2⟩ := HJC.o n wx hJ
      clear hF
      unfold flowAt
      go_simp
      exact ⟨trivial, rfl, hJ⟩
    intro K hK
    go_simp
    refine hK _ ?_
    clear hK K
    apply chain_const
    · intro _; kernel_rfl
    · rfl
    · intro ss wx n hJ hF
      obtain ⟨k1, k2⟩ := HJC.o n wx hJ
      clear hF
      unfold flowAt
      go_simp
      exact ⟨trivial, rfl, hJ⟩
    intro K hK
    go_simp
    refine hK _ ?_
    clear hK K
    apply chain_const
    · intro _; kernel_rfl
    · rfl
    · intro ss wx n hJ hF
      obtain ⟨k1, k2⟩ := HJC.o n wx hJ
      clear hF
      unfold flowAt
      go_simp
      exact ⟨trivial, rfl, hJ⟩
    intro K hK
    go_simp
    refine hK _ ?_
    clear hK K
    apply chain_const
    · intro _; kernel_rfl
    · rfl
    · intro ss wx n hJ hF
      obtain ⟨k1, k2⟩ := HJC.o n wx hJ
      clear hF
      unfold flowAt
      go_simp
      exact ⟨trivial, rfl, hJ⟩
    intro K hK
    go_simp
    refine hK _ ?_
    clear hK K
    apply chain_const
    · intro _; kernel_rfl
    · rfl
    · intro ss wx n hJ hF
      obtain ⟨k1, k2⟩ := HJC.o n wx hJ
      clear hF
      unfold flowAt
      go_simp
      exact ⟨trivial, rfl, hJ⟩
    intro K hK
    go_simp
    refine hK _ ?_
    clear hK K
    apply chain_const
    · intro _; kernel_rfl
    · rfl
    · intro ss wx n hJ hF
      obtain ⟨k1, k2⟩ := HJC.o n wx hJ
      clear hF
      unfold flowAt
      go_simp
      exact ⟨trivial, rfl, hJ⟩
    intro K hK
    go_simp
    refine hK _ ?_
    clear hK K
    apply chain_const
    · intro _; kernel_rfl
    · rfl
    · intro ss wx n hJ hF
      obtain ⟨k1, k2⟩ := HJC.o n wx hJ
      clear hF
      unfold flowAt
      go_simp
      exact ⟨trivial, rfl, hJ⟩
    intro K hK
    go_simp
    refine hK _ ?_
    clear hK K
    apply chain_const
    · intro _; kernel_rfl
    · rfl
    · intro ss wx n hJ hF
      obtain ⟨k1, k2⟩ := HJC.o n wx hJ
      clear hF
      unfold flowAt
      go_simp
      exact ⟨trivial, rfl, hJ⟩
    intro K hK
    go_simp
    refine hK _ ?_
    clear hK K
    apply chain_const
    · intro _; kernel_rfl
    · rfl
    · intro ss wx n hJ hF
      obtain ⟨k1, k2⟩ := HJC.o n wx hJ
      clear hF
      unfold flowAt
      go_simp
      exact ⟨trivial, rfl, hJ⟩
    intro K hK
    go_simp
    refine hK _ ?_
    clear hK K
    apply chain_step 0 (.int .i64 C.1)
    · intro _; kernel_rfl
    · rfl
    · intro ss wx hJ hF
      have h9 := hJ
      have HH9 := Sd.mk h9
      clear hF hJ h9
      unfold flowAt
      go_simp
      simp only [flowUpon]
      go_at_call 15
      refine (HAP.o wx HH9.o).mono ?_
      rintro e w' ⟨rfl, h1⟩
      exact ⟨_, rfl, trivial, rfl, h1⟩
    intro K hK
    go_simp
    refine hK _ ?_
    clear hK K
    apply chain_const
    · intro _; kernel_rfl
    · rfl
    · intro ss wx n hJ hF
      obtain ⟨k1, k2⟩ := HJC.o n wx hJ
      clear hF
      unfold flowAt
      go_simp
      exact ⟨trivial, rfl, hJ⟩
    intro K hK
    go_simp
    refine hK _ ?_
    clear hK K
    apply chain_nil
    intro s2 w6 hJ6 hF
    have H6 : Sd (HalfT w0 TT b rb C.2 t w6) := ⟨by have := hJ6.1; rw [if_neg (by decide)] at this; exact this⟩
    have K6 : Sd (Keeps (offT w0 TT) w2 w6) := ⟨hJ6.2⟩
    clear hF hJ6 HJC HAP
    obtain ⟨rfl⟩ := HTT
    go_simp
    have HAb := Sd.mk ((HA.o.kept K2.o).keeps K6.o (fun i hi e => e.1 (.inl (HT.o i hi))))
    have HTb := Sd.mk (T2.o.keepsB K6.o (fun i hi e => e.1 (.inr (.inl hi))))
    have O6 := Sd.mk (O2.o.keeps K6.o (fun i hi e => e.1 (.inr (.inr (.inl hi)))))
    have K26 : Sd (Keeps (offT w0 T) w w6) := ⟨(K2.o.mono (fun _ _ f => f.elim)).trans (K6.o.mono (fun i _ f => offT.or f)) (fun _ _ f => f) (fun _ _ f => f)⟩
    go_wp2_with fail
    go_ret2
    obtain ⟨q1, q2⟩ := HF.o
    subst q1
    exact AddP.no q2 K26.o (H6.o.less (fun i hi => .inl hi)) HAb.o HT.o
  rw [if_neg (fun e => e hc)] at hR
  have HF : Sd (R = (0, C.2, L2)) := ⟨hR⟩
  have hb2 : (C.1 != 0) = false := by simpa using hc
  clear hR hc
  go_enter Tryz.func19, Tryz.ntmps19
  go_upto_region 6 with (first
    | (go_at_call 55; refine HCP.o.mono ?_; rintro e w1 ⟨b2, mb2, A2, c2, rfl, t1, k1⟩; have HIN := Sd.mk (HIG.o w1 b2 mb2 A2 c2 t1 k1); have K1 := Sd.mk k1; have T1 := Sd.mk t1; clear t1 k1)
    | (go_at_call 27; refine (HIN.o.mono fun e w' hp => intern_yes HE.o hp).mono ?_; rw [← HX.o, ← HO.o, ← HL.o]; rintro e w2 ⟨A3, c3, Ao, co, Ab, cb, rfl, t2, o2, x2, fo, fx, k2⟩; have K2 : Sd (Keeps NoB w w2) := ⟨K1.o.late k2 (fun i hi => T1.o.from i hi)⟩; have T2 := Sd.mk t2; have O2 := Sd.mk o2; have X2 := Sd.mk x2; have FO : Sd (Fresh w (.slice Ao O.length co)) := ⟨fun i hi => Nat.le_trans K1.o.size (fo i hi)⟩; have FX : Sd (Fresh w (.slice Ab X.length cb)) := ⟨fun i hi => Nat.le_trans K1.o.size (fx i hi)⟩; clear t2 o2 x2 fo fx k2))
  have HH : Sd (HalfT w0 (fun k => T k ∨ TabB b2 mb2 (.slice A3 L2.length c3) k ∨ (Value.slice Ao O.length co).ownBlock = some k ∨ (Value.slice Ab X.length cb).ownBlock = some k) b rb s t w2) := ⟨H.o.other K2.o (fun _ f => f.elim) (fun i hi => by
    rcases hi with hi | hi | hi | hi
    · exact ⟨.inl hi, Nat.lt_of_lt_of_le (HTW.o i hi) K2.o.size⟩
    · exact ⟨.inr (T2.o.from i hi), T2.o.lt i hi⟩
    · exact ⟨.inr (FO.o i hi), O2.o.lt i hi⟩
    · exact ⟨.inr (FX.o i hi), X2.o.lt i hi⟩)⟩
  have HAP : Sd (∀ wx, adJ w0 w2 (fun k => T k ∨ TabB b2 mb2 (.slice A3 L2.length c3) k ∨ (Value.slice Ao O.length co).ownBlock = some k ∨ (Value.slice Ab X.length cb).ownBlock = some k) b rb s C.2 t 0 wx → Calls Tryz.prog 15 #[.pointer (some ⟨b, 0, none⟩), .int .i64 n, .slice Ab X.length cb] wx fun e w' => e = .returned (.int .i64 C.1) ∧ adJ w0 w2 (fun k => T k ∨ TabB b2 mb2 (.slice A3 L2.length c3) k ∨ (Value.slice Ao O.length co).ownBlock = some k ∨ (Value.slice Ab X.length cb).ownBlock = some k) b rb s C.2 t 1 w') :=
    ⟨fun wx hJ => by
      have h0 := hJ.1
      rw [if_pos rfl] at h0
      have hc := xa_append h0 HI.o (by omega) n Ab cb X (X2.o.keeps hJ.2 (fun i hi f => f.1 (.inr (.inr (.inr hi))))).own.bts hbl
      rw [← HC.o] at hc
      exact hc.mono fun e w' ⟨he, h1, h2⟩ => ⟨he, adJ.mk1 h1 (hJ.2.trans h2 (fun _ _ f => f) (fun _ _ f => f))⟩⟩
  have HBf := Sd.mk (HA.o.kept K2.o).blk
  have HJC : Sd (∀ k wx, adJ w0 w2 (fun k => T k ∨ TabB b2 mb2 (.slice A3 L2.length c3) k ∨ (Value.slice Ao O.length co).ownBlock = some k ∨ (Value.slice Ab X.length cb).ownBlock = some k) b rb s C.2 t k wx → wx.cell? ⟨f, 1, none⟩ = some (.pointer (some ⟨b, 0, none⟩)) ∧ wx.cell? ⟨f, 2, none⟩ = some (.int .i64 n)) := ⟨fun k wx hJ => by
    have hb := hJ.2.obj HBf.o (fun e => e.1 (.inl (HT.o f (.inl rfl))))
    exact ⟨blk_cell hb 1, blk_cell hb 2⟩⟩
  generalize hTT : (fun k => T k ∨ TabB b2 mb2 (.slice A3 L2.length c3) k ∨ (Value.slice Ao O.length co).ownBlock = some k ∨ (Value.slice Ab X.length cb).ownBlock = some k) = TT at *
  have HTT := Sd.mk hTT
  clear hTT
  refine wp_region_chain (J := adJ w0 w2 TT b rb s C.2 t) (R := fun _ _ => True) [9] (fun _ => trivial) (by kernel_rfl) (by kernel_rfl) (by kernel_rfl) (adJ.mk0 (HH.o.kept (Keeps.refl NoB _).drew) ((Keeps.refl _ w2).drew)) ?_
  apply chain_const
  · intro _; kernel_rfl
  · rfl
  · intro ss wx n hJ hF
    obtain ⟨k1, k2⟩ := HJC.o n wx hJ
    clear hF
    unfold flowAt
    go_simp
    exact ⟨trivial, rfl, hJ⟩
  intro K hK
  go_simp
  refine hK _ ?_
  clear hK K
  apply chain_const
  · intro _; kernel_rfl
  · rfl
  · intro ss wx n hJ hF
    obtain ⟨k1, k2⟩ := HJC.o n wx hJ
    clear hF
    unfold flowAt
    go_simp
    exact ⟨trivial, rfl, hJ⟩
  intro K hK
  go_simp
  refine hK _ ?_
  clear hK K
  apply chain_const
  · intro _; kernel_rfl
  · rfl
  · intro ss wx n hJ hF
    obtain ⟨k1, k2⟩ := HJC.o n wx hJ
    clear hF
    unfold flowAt
    go_simp
    exact ⟨trivial, rfl, hJ⟩
  intro K hK
  go_simp
  refine hK _ ?_
  clear hK K
  apply chain_const
  · intro _; kernel_rfl
  · rfl
  · intro ss wx n hJ hF
    obtain ⟨k1, k2⟩ := HJC.o n wx hJ
    clear hF
    unfold flowAt
    go_simp
    exact ⟨trivial, rfl, hJ⟩
  intro K hK
  go_simp
  refine hK _ ?_
  clear hK K
  apply chain_const
  · intro _; kernel_rfl
  · rfl
  · intro ss wx n hJ hF
    obtain ⟨k1, k2⟩ := HJC.o n wx hJ
    clear hF
    unfold flowAt
    go_simp
    exact ⟨trivial, rfl, hJ⟩
  intro K hK
  go_simp
  refine hK _ ?_
  clear hK K
  apply chain_const
  · intro _; kernel_rfl
  · rfl
  · intro ss wx n hJ hF
    obtain ⟨k1, k2⟩ := HJC.o n wx hJ
    clear hF
    unfold flowAt
    go_simp
    exact ⟨trivial, rfl, hJ⟩
  intro K hK
  go_simp
  refine hK _ ?_
  clear hK K
  apply chain_const
  · intro _; kernel_rfl
  · rfl
  · intro ss wx n hJ hF
    obtain ⟨k1, k2⟩ := HJC.o n wx hJ
    clear hF
    unfold flowAt
    go_simp
    exact ⟨trivial, rfl, hJ⟩
  intro K hK
  go_simp
  refine hK _ ?_
  clear hK K
  apply chain_const
  · intro _; kernel_rfl
  · rfl
  · intro ss wx n hJ hF
    obtain ⟨k1, k2⟩ := HJC.o n wx hJ
    clear hF
    unfold flowAt
    go_simp
    exact ⟨trivial, rfl, hJ⟩
  intro K hK
  go_simp
  refine hK _ ?_
  clear hK K
  apply chain_const
  · intro _; kernel_rfl
  · rfl
  · intro ss wx n hJ hF
    obtain ⟨k1, k2⟩ := HJC.o n wx hJ
    clear hF
    unfold flowAt
    go_simp
    exact ⟨trivial, rfl, hJ⟩
  intro K hK
  go_simp
  refine hK _ ?_
  clear hK K
  apply chain_step 0 (.int .i64 C.1)
  · intro _; kernel_rfl
  · rfl
  · intro ss wx hJ hF
    have h9 := hJ
    have HH9 := Sd.mk h9
    clear hF hJ h9
    unfold flowAt
    go_simp
    simp only [flowUpon]
    go_at_call 15
    refine (HAP.o wx HH9.o).mono ?_
    rintro e w' ⟨rfl, h1⟩
    exact ⟨_, rfl, trivial, rfl, h1⟩
  intro K hK
  go_simp
  refine hK _ ?_
  clear hK K
  apply chain_const
  · intro _; kernel_rfl
  · rfl
  · intro ss wx n hJ hF
    obtain ⟨k1, k2⟩ := HJC.o n wx hJ
    clear hF
    unfold flowAt
    go_simp
    exact ⟨trivial, rfl, hJ⟩
  intro K hK
  go_simp
  refine hK _ ?_
  clear hK K
  apply chain_nil
  intro s2 w6 hJ6 hF
  have H6 : Sd (HalfT w0 TT b rb C.2 t w6) := ⟨by have := hJ6.1; rw [if_neg (by decide)] at this; exact this⟩
  have K6 : Sd (Keeps (offT w0 TT) w2 w6) := ⟨hJ6.2⟩
  clear hF hJ6 HJC HAP
  obtain ⟨rfl⟩ := HTT
  go_simp
  have HAb := Sd.mk ((HA.o.kept K2.o).keeps K6.o (fun i hi e => e.1 (.inl (HT.o i hi))))
  have HTb := Sd.mk (T2.o.keepsB K6.o (fun i hi e => e.1 (.inr (.inl hi))))
  have O6 := Sd.mk (O2.o.keeps K6.o (fun i hi e => e.1 (.inr (.inr (.inl hi)))))
  have K26 : Sd (Keeps (offT w0 T) w w6) := ⟨(K2.o.mono (fun _ _ f => f.elim)).trans (K6.o.mono (fun i _ f => offT.or f)) (fun _ _ f => f) (fun _ _ f => f)⟩
  go_upto_region 9 with fail
  have hAb := HAb.o
  have pf0 := blk_cell hAb.blk 0
  have ct0 := blk_cell hAb.tab.blk 0
  have ct1 := blk_cell hAb.tab.blk 1
  have ft0 := blk_frozen hAb.tab.blk 0
  have ft1 := blk_frozen hAb.tab.blk 1
  have pb0 := blk_cell HTb.o.blk 0
  have pb1 := blk_cell HTb.o.blk 1
  clear hAb
  go_region
  all_goals (
    go_wp2_with fail
    go_ret2
    obtain ⟨rfl⟩ := HF
    exact AddP.yes K26.o (H6.o.less (fun i hi => hi.elim .inl (fun h => h.elim (fun h => .inr (.inl h)) (fun h => .inr (.inr (.inl h)))))) HAb.o HT.o HTb.o O6.o FO.o hws rfl HTW.o)
end Go.Proofs.YtdjamijbhaplgaaGreat
