/- The statements' tells: does a table tell what the document's does? -/
import Derived.Test.YtdjamijbhaplgaaGreatGkbg
import Derived.Test.YtdjamijbhaplgaaGreatGkal
import Derived.Test.YtdjamijbhaplgaaGreatFlow
import Derived.Test.YtdjamijbhaplgaaGreatSymRa
import Derived.Test.YtdjamijbhaplgaaGreatGkav
import Derived.Test.YtdjamijbhaplgaaGreatGkag
namespace Go.Proofs.YtdjamijbhaplgaaGreat
open Go.RowKit Go.Maps

set_option maxHeartbeats 4000000 in
set_option maxRecDepth 100000 in
theorem tells_any (w : World) (base b mb : Nat) (A : Option Addr) (c : Nat) (l : List (List UInt8)) (ht : IsT w base b mb A c l) (base2 b2 : Nat) (A2 : Option Addr) (c2 : Nat) (hr : IsR w base2 b2 A2 c2 l) (hl : l.length ≤ 65536)
    (S : ByteArray) (hS : S.size ≤ 20000) (n : Int) (hn0 : -9223372036854775808 ≤ n) (hn1 : n ≤ 9223372036854775807) :
    Calls Tryz.prog 24 #[.pointer (some ⟨b, 0, none⟩), .pointer (some ⟨b2, 0, none⟩), .string S, .int .i64 n] w fun e w' => e = .returned (.bool true) ∧ Keeps NoB w w' := by
  have h0 : w.cell? ⟨b2, 0, none⟩ = some (.slice A2 l.length c2) := blk_cell hr.blk 0
  have HT := Sd.mk ht
  have HR := Sd.mk hr
  have HV := Sd.mk hr.own.vrd.2.2.2.2.2
  have HN1 := tnumber_any w base b mb A c l ht S (by omega)
  have HN2 := trnumber_any w base2 b2 A2 c2 l hr (by omega) S
  have hSl : S.toList = S.data.toList := by rw [ByteArray.toList_eq]
  rw [hSl] at HN2
  obtain ⟨x, hx⟩ : ∃ x, x = symAt l n := ⟨_, rfl⟩
  have HSA := tsymbol_any w base b mb A c l ht n
  rw [← hx] at HSA
  obtain ⟨X, f⟩ := x
  dsimp only at HSA
  obtain ⟨n1, hn1'⟩ : ∃ n1, n1 = numL l S.data.toList := ⟨_, rfl⟩
  obtain ⟨n2, hn2'⟩ : ∃ n2, n2 = numR l S.data.toList := ⟨_, rfl⟩
  obtain ⟨b1, hb1⟩ : ∃ b1, b1 = decide (S.data.toList ∈ l) := ⟨_, rfl⟩
  rw [← hn1', ← hb1] at HN1
  rw [← hn2'] at HN2
  have HNN : Sd (b1 = decide (0 ≤ n2) ∧ (n1 : Int) = max n2 0) := ⟨by
    unfold numL at hn1'
    unfold numR at hn2'
    by_cases h : S.data.toList ∈ l
    · rw [if_pos h] at hn1' hn2'
      rw [hb1, hn2', hn1', decide_eq_true h]
      exact ⟨(decide_eq_true (by omega)).symm, by omega⟩
    · rw [if_neg h] at hn1' hn2'
      rw [hb1, hn2', hn1', decide_eq_false h]
      exact ⟨by decide, by decide⟩⟩
  have HX := Sd.mk hx
  have HSAs := Sd.mk HSA
  have HN1s := Sd.mk HN1
  have HN2s := Sd.mk HN2
  clear ht hr HN1 HN2 hSl hx HSA hn1' hn2' hb1
  go_enter Tryz.func24, Tryz.ntmps24
  go_upto_region 6 with (first | (go_at_call 58; refine HN1s.o.mono ?_; rintro e w' ⟨rfl, rfl⟩) | (go_at_call 28; refine HSAs.o.mono ?_; rintro e w' ⟨rfl, rfl⟩) | (go_at_call 59; refine HN2s.o.mono ?_; rintro e w' ⟨rfl, m, rfl⟩))
  obtain ⟨bq, hbq⟩ : ∃ bq, bq = decide (0 ≤ n ∧ n < (l.length : Int)) := ⟨_, rfl⟩
  have HBQ := Sd.mk hbq
  clear hbq
  go_cut [41] from 31 to 41 (fun sx wx => sx = .bool bq ∧ Sd (wx = w.drewN m))
  case first =>
    by_cases hng : 0 ≤ n
    · by_cases hlt : n < (l.length : Int)
      · have hb : Sd (bq = true) := ⟨by rw [HBQ.o]; exact decide_eq_true ⟨hng, hlt⟩⟩
        go_wp2_with fail
        go_meet
        exact ⟨by rw [hb.o], ⟨rfl⟩⟩
      · have hb : Sd (bq = false) := ⟨by rw [HBQ.o]; exact decide_eq_false (fun h => hlt h.2)⟩
        go_wp2_with fail
        go_meet
        exact ⟨by rw [hb.o], ⟨rfl⟩⟩
    · have hb : Sd (bq = false) := ⟨by rw [HBQ.o]; exact decide_eq_false (fun h => hng h.1)⟩
      go_wp2_with fail
      go_meet
      exact ⟨by rw [hb.o], ⟨rfl⟩⟩
  obtain ⟨rfl, ⟨rfl⟩⟩ := hcut
  go_upto_if 41 with fail
  go_cut [14, 15] from 42 to 48 (fun sx sf wx => sx = .string (sOf X) ∧ sf = .int .i64 f ∧ Sd (wx = w.drewN m))
  case first =>
    cases hbq : bq with
    | true =>
      have hin : 0 ≤ n ∧ n < (l.length : Int) := of_decide_eq_true (HBQ.o.symm.trans hbq)
      obtain ⟨j, rfl⟩ := Int.eq_ofNat_of_zero_le hin.1
      have hlt : j < l.length := by omega
      obtain ⟨bb, o1, rfl, hc⟩ := HV.o j (by rw [strs_len]; exact hlt)
      have hXe : X = l[j] ∧ f = 0 := by
        have := HX.o
        unfold symAt at this
        rw [if_pos hin, Int.toNat_natCast, List.getD_eq_getElem?_getD, List.getElem?_eq_getElem hlt] at this
        simpa using this
      have hc2 : w.cell? ⟨bb, o1 + j, none⟩ = some (.string (sOf X)) := by rw [hc, hXe.1]; simp [strs]
      have hf := hXe.2
      subst hf
      have hq : (j : Int) < (l.length : Int) := by omega
      clear hc hXe hin
      subst hbq
      go_wp2_with fail
      go_meet
      exact ⟨rfl, rfl, ⟨rfl⟩⟩
    | false =>
      have hin : ¬ (0 ≤ n ∧ n < (l.length : Int)) := of_decide_eq_false (HBQ.o.symm.trans hbq)
      have hXe : X = [] ∧ f = 50 := by
        have := HX.o
        unfold symAt at this
        rw [if_neg hin] at this
        simpa using this
      obtain ⟨rfl, rfl⟩ := hXe
      clear hin
      subst hbq
      go_wp2_with fail
      go_meet
      exact ⟨rfl, rfl, ⟨rfl⟩⟩
  obtain ⟨rfl, rfl, ⟨rfl⟩⟩ := hcut
  go_upto_region 9 with fail
  have hlw : ∀ wx, Keeps NoB w wx → wx.cell? ⟨b2, 0, none⟩ = some (.slice A2 l.length c2) := fun wx hk => hk.cell h0 (fun f => f)
  have hqb : (b1 == decide (0 ≤ n2)) = true := by rw [HNN.o.1]; simp
  have hmx : ((n1 : Int) == max n2 0) = true := by rw [HNN.o.2]; simp
  refine wp_region_flow_lit (R := Keeps NoB) (w0 := w) (fun w => Keeps.refl _ w) (fun _ _ _ h k => h.then k) (by kernel_rfl) (by kernel_rfl) ((Keeps.refl _ _).drewN m).drew ?_
  repeat (first
    | (apply flow_skip
       · intro _; rfl
       intro K hK
       go_simp
       refine hK _ ?_
       clear hK K)
    | (apply flow_const
       · intro _; kernel_rfl
       · intro s wx hR hF
         have hc := hlw wx hR
         clear hF
         unfold flowAt
         go_simp
         first
           | exact ⟨Keeps.refl _ _, rfl⟩
           | (simp only [flowUpon]
              first
                | (go_at_call 25
                   refine (tlen_any wx base b mb A c l (HT.o.kept hR)).mono ?_
                   rintro e w' ⟨rfl, rfl⟩
                   exact ⟨_, rfl, Keeps.refl _ _, rfl⟩)
                | (go_at_call 12
                   refine (num_law wx f).mono ?_
                   rintro e w' ⟨rfl, rfl⟩
                   exact ⟨_, rfl, Keeps.refl _ _, rfl⟩))
       intro K hK
       go_simp
       refine hK _ ?_
       clear hK K)
    | (apply flow_any (p := fun v wx => ∃ A' c', v = .slice A' l.length c' ∧ OwnV wx 9 (.slice A' l.length c') (strs l))
       · intro _; kernel_rfl
       · rintro v wx wy _ hk ⟨A', c', e, ho⟩
         exact ⟨A', c', e, ho.kept hk⟩
       · intro s wx hR hF
         clear hF
         unfold flowAt
         go_simp
         simp only [flowUpon]
         go_at_call 61
         refine (tall_any wx base b mb A c l (HT.o.kept hR) (by omega)).mono ?_
         rintro e w' ⟨A', c', rfl, ho, _, hk⟩
         exact ⟨_, rfl, hk, A', c', rfl, ho⟩
       intro K hK
       go_simp
       refine hK _ ?_
       clear hK K)
    | (apply flow_const
       · intro _; kernel_rfl
       · intro s wx hR hF
         have hc := hlw wx hR
         obtain ⟨A', c', e9, ho⟩ : ∃ A' c', s 10 = .slice A' l.length c' ∧ OwnV wx 9 (.slice A' l.length c') (strs l) := hF 10 (by kernel_rfl)
         clear hF
         unfold flowAt
         go_simp
         simp only [flowUpon]
         go_at_call 60
         refine (rtexts_any wx A' A2 c' c2 l l ho.vrd.2.2.2.2.2 (HR.o.kept hR).own.vrd.2.2.2.2.2 (by omega) (by omega)).mono ?_
         rintro e w' ⟨rfl, k, rfl⟩
         refine ⟨_, rfl, (Keeps.refl _ _).drewN k, ?_⟩
         rw [decide_eq_true rfl]
       intro K hK
       go_simp
       refine hK _ ?_
       clear hK K)
    | (apply flow_any (p := fun v wx => ∃ A' c', v = .slice A' (bytesL l).length c' ∧ OwnV wx 5 (.slice A' (bytesL l).length c') (bvs (bytesL l)))
       · intro _; kernel_rfl
       · rintro v wx wy _ hk ⟨A', c', e, ho⟩
         exact ⟨A', c', e, ho.kept hk⟩
       · intro s wx hR hF
         clear hF
         unfold flowAt
         go_simp
         simp only [flowUpon]
         first
           | (go_at_call 62
              refine (tbytes_any wx base b mb A c l (HT.o.kept hR) (by omega)).mono ?_
              rintro e w' ⟨A', c', rfl, ho, _, hk⟩
              exact ⟨_, rfl, hk, A', c', rfl, ho⟩)
           | (go_at_call 63
              refine (trbytes_any wx base2 b2 A2 c2 l (HR.o.kept hR) (by omega) HT.o.sz (List.length_pos_iff.2 HT.o.ne)).mono ?_
              rintro e w' ⟨A', c', rfl, ho, _, hk⟩
              exact ⟨_, rfl, hk, A', c', rfl, ho⟩)
       intro K hK
       go_simp
       refine hK _ ?_
       clear hK K)
    | (apply flow_const
       · intro _; kernel_rfl
       · intro s wx hR hF
         first
           | (obtain ⟨A', c', e9, ho⟩ : ∃ A' c', s 19 = .slice A' (bytesL l).length c' ∧ OwnV wx 5 (.slice A' (bytesL l).length c') (bvs (bytesL l)) := hF 19 (by kernel_rfl)
              have hcv := cv_bts ho.bts
              clear hF
              unfold flowAt
              go_simp
              exact ⟨Keeps.refl _ _, rfl⟩)
           | (obtain ⟨A', c', e9, ho⟩ : ∃ A' c', s 22 = .slice A' (bytesL l).length c' ∧ OwnV wx 5 (.slice A' (bytesL l).length c') (bvs (bytesL l)) := hF 22 (by kernel_rfl)
              have hcv := cv_bts ho.bts
              clear hF
              unfold flowAt
              go_simp
              exact ⟨Keeps.refl _ _, rfl⟩)
       intro K hK
       go_simp
       refine hK _ ?_
       clear hK K))
  refine flow_nil ?_
  intro s wy hkw hF
  clear hF
  go_wp2
  go_ret
  exact ⟨rfl, hkw⟩
end Go.Proofs.YtdjamijbhaplgaaGreat
namespace Go.Proofs.YtdjamijbhaplgaaGreat
open Go.RowKit Go.Maps Go.Lib

abbrev Tab := Option (Int × List (List UInt8))
/-- Both tables are M, in the file system s and the document's. -/
def Tabs2 (w0 : World) (G : Nat → Prop) (b rb : Nat) (s t : FSt) (M : Tab) (tv wv : Value) (w : World) : Prop :=
  match M with
  | none => tv = .pointer none ∧ wv = .pointer none ∧ HalfT w0 G b rb s t w
  | some (n, l) => ∃ f tb mb A c rf rtb RA rc, tv = .pointer (some ⟨f, 0, none⟩) ∧ wv = .pointer (some ⟨rf, 0, none⟩) ∧ HalfT w0 (fun k => G k ∨ tabAB f tb mb A c l k ∨ tabRB rf rtb RA rc l k) b rb s t w ∧
      TabA w w0.heap.size b f tb mb A c n l ∧ TabR w w0.heap.size rb rf rtb RA rc n l ∧ GoodT l
def Tabs (w0 : World) (G : Nat → Prop) (b rb : Nat) (s : FSt) (M : Tab) (tv wv : Value) (w : World) : Prop := Tabs2 w0 G b rb s s M tv wv w
section
variable {w0 w w' : World} {G G' : Nat → Prop} {b rb : Nat} {s s' t t' : FSt} {M : Tab} {tv wv : Value}
theorem Tabs.half (h : Tabs w0 G b rb s M tv wv w) : HalfT w0 G b rb s s w := by
  cases M with
  | none => exact h.2.2
  | some x =>
    obtain ⟨n, l⟩ := x
    obtain ⟨f, tb, mb, A, c, rf, rtb, RA, rc, _, _, h, _⟩ := h
    exact h.less (fun i hi => .inl hi)
theorem Tabs.keeps (h : Tabs w0 G b rb s M tv wv w) : Keeps NoB w0 w := h.half.keeps
theorem Tabs.kept (h : Tabs w0 G b rb s M tv wv w) (k : Keeps NoB w w') : Tabs w0 G b rb s M tv wv w' := by
  cases M with
  | none => exact ⟨h.1, h.2.1, h.2.2.kept k⟩
  | some x =>
    obtain ⟨n, l⟩ := x
    obtain ⟨f, tb, mb, A, c, rf, rtb, RA, rc, e1, e2, h, h1, h2, h3⟩ := h
    exact ⟨f, tb, mb, A, c, rf, rtb, RA, rc, e1, e2, h.kept k, h1.kept k, h2.kept k, h3⟩
/-- Other blocks are others'. -/
theorem Tabs.grow (h : Tabs w0 G b rb s M tv wv w) (k : Keeps NoB w w') (hG : ∀ i, G' i → (G i ∨ w.heap.size ≤ i) ∧ i < w'.heap.size) : Tabs w0 G' b rb s M tv wv w' := by
  cases M with
  | none => exact ⟨h.1, h.2.1, h.2.2.other k (fun _ f => f.elim) hG⟩
  | some x =>
    obtain ⟨n, l⟩ := x
    obtain ⟨f, tb, mb, A, c, rf, rtb, RA, rc, e1, e2, h, h1, h2, h3⟩ := h
    refine ⟨f, tb, mb, A, c, rf, rtb, RA, rc, e1, e2, h.other k (fun _ f => f.elim) (fun i hi => ?_), h1.kept k, h2.kept k, h3⟩
    rcases hi with hi | hi
    · exact ⟨(hG i hi).1.imp .inl id, (hG i hi).2⟩
    · exact ⟨.inl (.inr hi), Nat.lt_of_lt_of_le (h.lt (.inr hi)) k.size⟩
/-- One operation of a file system. -/
theorem Tabs2.op {P : Program} {f : FuncId} {args : Array Value} {r : Ending → Prop} (h : Tabs2 w0 G b rb s t M tv wv w) (hc : ∀ T : Nat → Prop, HalfT w0 T b rb s t w → Calls P f args w fun e w' => r e ∧ HalfT w0 T b rb s' t' w' ∧ Keeps (offT w0 T) w w') :
    Calls P f args w fun e w' => r e ∧ Tabs2 w0 G b rb s' t' M tv wv w' ∧ Keeps (offT w0 G) w w' := by
  cases M with
  | none => exact (hc G h.2.2).mono fun e w' ⟨he, h1, hk⟩ => ⟨he, ⟨h.1, h.2.1, h1⟩, hk⟩
  | some x =>
    obtain ⟨n, l⟩ := x
    obtain ⟨f', tb, mb, A, c, rf, rtb, RA, rc, e1, e2, h0, h1, h2, h3⟩ := h
    refine (hc _ h0).mono fun e w' ⟨he, h4, hk⟩ => ⟨he, ⟨f', tb, mb, A, c, rf, rtb, RA, rc, e1, e2, h4, h1.keeps hk (fun i hi f => f.1 (.inr (.inl hi))), h2.keeps hk (fun i hi f => f.1 (.inr (.inr hi))), h3⟩, hk.mono (fun i _ f => offT.or f)⟩
theorem Tabs2.half (h : Tabs2 w0 G b rb s t M tv wv w) : HalfT w0 G b rb s t w := by
  cases M with
  | none => exact h.2.2
  | some x =>
    obtain ⟨n, l⟩ := x
    obtain ⟨f, tb, mb, A, c, rf, rtb, RA, rc, _, _, h, _⟩ := h
    exact h.less (fun i hi => .inl hi)
theorem Tabs2.kept (h : Tabs2 w0 G b rb s t M tv wv w) (k : Keeps NoB w w') : Tabs2 w0 G b rb s t M tv wv w' := by
  cases M with
  | none => exact ⟨h.1, h.2.1, h.2.2.kept k⟩
  | some x =>
    obtain ⟨n, l⟩ := x
    obtain ⟨f, tb, mb, A, c, rf, rtb, RA, rc, e1, e2, h, h1, h2, h3⟩ := h
    exact ⟨f, tb, mb, A, c, rf, rtb, RA, rc, e1, e2, h.kept k, h1.kept k, h2.kept k, h3⟩
theorem Tabs.less (h : Tabs w0 G b rb s M tv wv w) (hG : ∀ i, G' i → G i) : Tabs w0 G' b rb s M tv wv w := h.grow (Keeps.refl NoB w) (fun i hi => ⟨.inl (hG i hi), h.half.lt (hG i hi)⟩)
end
section
variable {w0 w w' : World} {T : Nat → Prop} {b rb : Nat} {s t : FSt} {R : Int × FSt × Int × List (List UInt8)} {e : Ending}
theorem ROpenP.no (hR : R.1 ≠ 0) (h : ROpenP w0 w T b rb s R e w') : e = .returned (.tuple #[.pointer none, .int .i64 R.1]) ∧ HalfT w0 T b rb s R.2.1 w' ∧ Keeps (offT w0 T) w w' := by
  obtain ⟨hk, ⟨_, h2, h3⟩ | ⟨h1, _⟩⟩ := h
  · exact ⟨h2, h3, hk⟩
  · exact absurd h1 hR
theorem ROpenP.yes (hR : R.1 = 0) (h : ROpenP w0 w T b rb s R e w') : ∃ f tb A c, e = .returned (.tuple #[.pointer (some ⟨f, 0, none⟩), .int .i64 0]) ∧ HalfT w0 (fun k => T k ∨ tabRB f tb A c R.2.2.2 k) b rb s R.2.1 w' ∧ TabR w' w0.heap.size rb f tb A c R.2.2.1 R.2.2.2 ∧ Keeps (offT w0 T) w w' := by
  obtain ⟨hk, ⟨h1, _⟩ | ⟨_, f, tb, A, c, h2, h3, h4⟩⟩ := h
  · exact absurd hR h1
  · exact ⟨f, tb, A, c, h2, h3, h4, hk⟩
end
/-- The first of the two openings. -/
def Open1 (w0 : World) (G : Nat → Prop) (b rb : Nat) (s : FSt) (R : Int × FSt × Int × List (List UInt8)) (tv : Value) (w : World) : Prop :=
  (R.1 ≠ 0 ∧ tv = .pointer none ∧ HalfT w0 G b rb R.2.1 s w) ∨ (R.1 = 0 ∧ ∃ f tb mb A c, tv = .pointer (some ⟨f, 0, none⟩) ∧ HalfT w0 (fun k => G k ∨ tabAB f tb mb A c R.2.2.2 k) b rb R.2.1 s w ∧ TabA w w0.heap.size b f tb mb A c R.2.2.1 R.2.2.2)
def openM (R : Int × FSt × Int × List (List UInt8)) : Tab := if R.1 = 0 then some (R.2.2.1, R.2.2.2) else none
theorem open1_any {w0 w : World} {G : Nat → Prop} {b rb N : Nat} {s : FSt} (h : HalfT w0 G b rb s s w) (inv : Inv N s) (hN : N ≤ 800000000) (S : ByteArray) (hS : S.size ≤ 9223372036854775807) :
    Calls Tryz.prog 17 #[.pointer (some ⟨b, 0, none⟩), .string S] w fun e w' => ∃ tv, e = .returned (.tuple #[tv, .int .i64 (s.openT S.data.toList).1]) ∧ Open1 w0 G b rb s (s.openT S.data.toList) tv w' ∧ Keeps (offT w0 G) w w' ∧ (tv = .pointer none ∨ ∃ f, tv = .pointer (some ⟨f, 0, none⟩)) := by
  refine (topen_any h inv hN S hS).mono fun e w' hp => ?_
  by_cases hR : (s.openT S.data.toList).1 = 0
  · obtain ⟨f, tb, mb, A, c, he, h1, h2, hk⟩ := OpenP.yes hR hp
    exact ⟨_, by rw [hR]; exact he, .inr ⟨hR, f, tb, mb, A, c, rfl, h1, h2⟩, hk, .inr ⟨f, rfl⟩⟩
  · obtain ⟨he, h1, hk⟩ := OpenP.no hR hp
    exact ⟨_, he, .inl ⟨hR, rfl, h1⟩, hk, .inl rfl⟩
theorem open2_any {w0 w : World} {G : Nat → Prop} {b rb N : Nat} {s : FSt} {S : ByteArray} {tv : Value} (h : Open1 w0 G b rb s (s.openT S.data.toList) tv w) (inv : Inv N s) (hN : N ≤ 800000000) (hS : S.size ≤ 9223372036854775807) :
    Calls Tryz.prog 18 #[.pointer (some ⟨rb, 0, none⟩), .string S] w fun e w' => ∃ wv, e = .returned (.tuple #[wv, .int .i64 (s.openT S.data.toList).1]) ∧ Tabs w0 G b rb (s.openT S.data.toList).2.1 (openM (s.openT S.data.toList)) tv wv w' ∧ Keeps (offT w0 G) w w' := by
  rcases h with ⟨hR, rfl, h1⟩ | ⟨hR, f, tb, mb, A, c, rfl, h1, h2⟩
  · refine (ropen5_any h1 inv hN S hS).mono fun e w' hp => ?_
    obtain ⟨he, h3, hk⟩ := ROpenP.no hR hp
    refine ⟨_, he, ?_, hk⟩
    unfold openM
    rw [if_neg hR]
    exact ⟨rfl, rfl, h3⟩
  · refine (ropen5_any h1 inv hN S hS).mono fun e w' hp => ?_
    obtain ⟨rf, rtb, RA, rc, he, h3, h4, hk⟩ := ROpenP.yes hR hp
    refine ⟨_, by rw [hR]; exact he, ?_, hk.mono (fun i _ f => offT.or f)⟩
    unfold openM
    rw [if_pos hR]
    exact ⟨f, tb, mb, A, c, rf, rtb, RA, rc, rfl, rfl, h3.less (fun i hi => by
      rcases hi with hi | hi | hi
      · exact .inl (.inl hi)
      · exact .inl (.inr hi)
      · exact .inr hi), h2.keeps hk (fun i hi f => f.1 (.inr hi)), h4, openT_good hR⟩
theorem TabA.ne_R {w : World} {base b f tb mb : Nat} {A : Option Addr} {c : Nat} {n : Int} {l : List (List UInt8)} (h : TabA w base b f tb mb A c n l) {base2 rb rf rtb : Nat} {RA : Option Addr} {rc : Nat} {n2 : Int} {l2 : List (List UInt8)} (hr : TabR w base2 rb rf rtb RA rc n2 l2) : ∀ i, tabRB rf rtb RA rc l2 i → i ≠ tb := fun i hi e => by
  subst e
  rcases hi with rfl | rfl | hi
  · have h1 := h.tab.blk
    rw [hr.blk] at h1
    cases h1
  · have h1 := h.tab.blk
    rw [hr.tab.blk] at h1
    exact absurd (Obj.cells.inj (Option.some.inj h1)).2.1 (by decide)
  · exact hr.tab.own.ne_blk h.tab.blk (by decide) hi
theorem TabR.ne_A {w : World} {base b f tb mb : Nat} {A : Option Addr} {c : Nat} {n : Int} {l : List (List UInt8)} (h : TabA w base b f tb mb A c n l) {base2 rb rf rtb : Nat} {RA : Option Addr} {rc : Nat} {n2 : Int} {l2 : List (List UInt8)} (hr : TabR w base2 rb rf rtb RA rc n2 l2) : ∀ i, tabAB f tb mb A c l i → i ≠ rtb := fun i hi e => by
  subst e
  rcases hi with rfl | rfl | rfl | hi
  · have h1 := hr.tab.blk
    rw [h.blk] at h1
    cases h1
  · have h1 := hr.tab.blk
    rw [h.tab.blk] at h1
    exact absurd (Obj.cells.inj (Option.some.inj h1)).2.1 (by decide)
  · obtain ⟨D, m, ⟨es, clock, hb, _⟩, _⟩ := h.tab.map
    rw [hr.tab.blk] at hb
    cases hb
  · exact h.tab.own.ne_blk hr.tab.blk (by decide) hi
def isAct (w : World) (G : Nat → Prop) : Prop := ∀ k, G k → ∃ cs, w.heap[k]? = some (.cells cs 38 (0, 0))
/-- The first of the two Adds is done. -/
def Add1 (w0 : World) (G : Nat → Prop) (b rb : Nat) (s : FSt) (n : Int) (l : List (List UInt8)) (out : List Nat) (R : Int × FSt × List (List UInt8)) (tv wv xv : Value) (w : World) : Prop :=
  ∃ f tb mb A c rf rtb RA rc Ao co, tv = .pointer (some ⟨f, 0, none⟩) ∧ wv = .pointer (some ⟨rf, 0, none⟩) ∧ xv = .slice Ao out.length co ∧ HalfT w0 (fun k => (G k ∨ tabAB f tb mb A c R.2.2 k ∨ tabRB rf rtb RA rc l k) ∨ (Value.slice Ao out.length co).ownBlock = some k) b rb R.2.1 s w ∧
    TabA w w0.heap.size b f tb mb A c n R.2.2 ∧ TabR w w0.heap.size rb rf rtb RA rc n l ∧ OwnV w 3 (.slice Ao out.length co) (ints out)
theorem add1_any {w0 w : World} {G : Nat → Prop} {b rb N : Nat} {s : FSt} {n : Int} {l : List (List UInt8)} {tv wv : Value} (h : Tabs w0 G b rb s (some (n, l)) tv wv w) (hG : isAct w G) (inv : Inv N s) (hN : N ≤ 800000000)
    (A1 : Option Addr) (c1 : Nat) (ss : List (List UInt8)) (hv : VRd w A1 (strs ss)) (hsz : ∀ s ∈ ss, s.length ≤ 140737488355328) (hsl : ss.length ≤ 65536) (hbl : ((addedL ss l).flatMap frameL).length ≤ 70368744177664) :
    Calls Tryz.prog 19 #[tv, .slice A1 ss.length c1] w fun e w' => ∃ Ao co, e = .returned (.tuple #[.slice Ao (if (s.addT n ss l).1 = 0 then outL ss l else []).length co, .int .i64 (s.addT n ss l).1]) ∧
      Add1 w0 G b rb s n l (if (s.addT n ss l).1 = 0 then outL ss l else []) (s.addT n ss l) tv wv (.slice Ao (if (s.addT n ss l).1 = 0 then outL ss l else []).length co) w' ∧ Keeps (offT w0 G) w w' := by
  obtain ⟨f, tb, mb, A, c, rf, rtb, RA, rc, rfl, rfl, h0, h1, h2, h3⟩ := h
  refine (taddf_any h0 h1 (fun k hk => .inr (.inl hk)) h3 inv hN A1 c1 ss hv hsz hsl hbl).mono fun e w' hp => ?_
  obtain ⟨hk, mb', A', c', Ao, co, he, h4, h5, h6, _⟩ := hp
  have hR := h2.keeps hk (fun i hi f => by
    rcases f with f | f
    · exact f.1 (.inr (.inr hi))
    · exact h1.ne_R h2 i hi f)
  refine ⟨Ao, co, he, ⟨f, tb, mb', A', c', rf, rtb, RA, rc, Ao, co, rfl, rfl, rfl, h4.less (fun i hi => ?_), h5, hR, h6⟩, hk.mono (fun i _ hi => ?_)⟩
  · rcases hi with (hi | hi | hi) | hi
    · exact .inl (.inl hi)
    · exact .inr (.inr hi)
    · exact .inl (.inr (.inr hi))
    · exact .inr (.inl hi)
  · rcases hi with hi | rfl
    · exact ⟨fun e => hi.1 (.inl e), hi.2⟩
    · refine ⟨fun e => ?_, h1.tab.b0⟩
      obtain ⟨cs, hc⟩ := hG i e
      have h7 := h1.tab.blk
      rw [hc] at h7
      cases h7
theorem add2_any {w0 w : World} {G : Nat → Prop} {b rb N : Nat} {s : FSt} {n : Int} {l : List (List UInt8)} {tv wv xv : Value} {ss : List (List UInt8)} (h : Add1 w0 G b rb s n l (if (s.addT n ss l).1 = 0 then outL ss l else []) (s.addT n ss l) tv wv xv w) (hG : isAct w G) (g : GoodT l) (inv : Inv N s) (hN : N ≤ 800000000)
    (A1 : Option Addr) (c1 : Nat) (hv : VRd w A1 (strs ss)) (hsz : ∀ s ∈ ss, s.length ≤ 140737488355328) (hsl : ss.length ≤ 65536) (hbl : ((addedL ss l).flatMap frameL).length ≤ 70368744177664) :
    Calls Tryz.prog 20 #[wv, .slice A1 ss.length c1] w fun e w' => ∃ Ao co Bo d, xv = .slice Ao (if (s.addT n ss l).1 = 0 then outL ss l else []).length co ∧ e = .returned (.tuple #[.slice Bo (if (s.addT n ss l).1 = 0 then outL ss l else []).length d, .int .i64 (s.addT n ss l).1]) ∧
      Tabs w0 G b rb (s.addT n ss l).2.1 (some (n, (s.addT n ss l).2.2)) tv wv w' ∧ OwnV w' 3 (.slice Ao (if (s.addT n ss l).1 = 0 then outL ss l else []).length co) (ints (if (s.addT n ss l).1 = 0 then outL ss l else [])) ∧
      OwnV w' 3 (.slice Bo (if (s.addT n ss l).1 = 0 then outL ss l else []).length d) (ints (if (s.addT n ss l).1 = 0 then outL ss l else [])) ∧ Keeps (offT w0 G) w w' := by
  obtain ⟨f, tb, mb, A, c, rf, rtb, RA, rc, Ao, co, rfl, rfl, rfl, h0, h1, h2, h3⟩ := h
  refine (raddf_any h0 h2 (fun k hk => .inl (.inr (.inr hk))) g inv hN A1 c1 ss hv hsz hsl hbl).mono fun e w' hp => ?_
  obtain ⟨hk, RA', rc', Bo, d, he, h4, h5, h6, _⟩ := hp
  have hA := h1.keeps hk (fun i hi f => by
    rcases f with f | f
    · exact f.1 (.inl (.inr (.inl hi)))
    · exact TabR.ne_A h1 h2 i hi f)
  have hO := h3.keeps hk (fun i hi f => by
    rcases f with f | f
    · exact f.1 (.inr hi)
    · subst f
      exact h3.ne_blk h2.tab.blk (by decide) hi)
  refine ⟨Ao, co, Bo, d, rfl, he, ⟨f, tb, mb, A, c, rf, rtb, RA', rc', rfl, rfl, h4.less (fun i hi => ?_), hA, h5, addT_good g⟩, hO, h6, hk.mono (fun i _ hi => ?_)⟩
  · rcases hi with hi | hi | hi
    · exact .inl (.inl (.inl hi))
    · exact .inl (.inl (.inr (.inl hi)))
    · exact .inr hi
  · rcases hi with hi | rfl
    · exact ⟨fun e => hi.1 (.inl (.inl e)), hi.2⟩
    · refine ⟨fun e => ?_, h2.tab.b0⟩
      obtain ⟨cs, hc⟩ := hG i e
      have h7 := h2.tab.blk
      rw [hc] at h7
      cases h7
end Go.Proofs.YtdjamijbhaplgaaGreat
namespace Go.Proofs.YtdjamijbhaplgaaGreat
open Go.RowKit Go.ChangeShapes Go.WideShapes Go.ChangeAt Go.ChangeMaps Go.Maps

structure SAct where
  kind : Int
  AL : Option Addr
  cL : Nat
  L : List (List UInt8)
  n : Int
  dir : Int
  At : Option Addr
  ct : Nat
  T : List TornS
def SAct.cells (y : SAct) : List Value := [.int .i64 y.kind, .slice y.AL y.L.length y.cL, .int .i64 y.n, .int .i64 y.dir, .slice y.At y.T.length y.ct]
structure SAct.Good (w : World) (y : SAct) : Prop where
  kk : Is64 y.kind
  kn : Is64 y.n
  kd : Is64 y.dir
  strs : VRd w y.AL (strs y.L)
  len : y.L.length ≤ 9223372036854775807
  each : ∀ s ∈ y.L, s.length ≤ 140737488351232
  torn : TRd w y.At y.T
  tlen : y.T.length ≤ 140737488351232
  tb : ∀ t ∈ y.T, Is64 t.writes ∧ Is64 t.bytes
def SRd (w : World) (A : Option Addr) (l : List SAct) : Prop := ∀ i (h : i < l.length), ∃ g o, A = some ⟨g, o, none⟩ ∧ ∀ j u, (l[i]).cells[j]? = some u → w.cell? ⟨g, o + i * 5 + j, none⟩ = some u
theorem SRd.kept {w w' : World} {A : Option Addr} {l : List SAct} (h : SRd w A l) (k : Keeps NoB w w') : SRd w' A l := fun i hi => by
  obtain ⟨g, o, e, hc⟩ := h i hi
  exact ⟨g, o, e, fun j u hj => k.cell (hc j u hj) (fun f => f)⟩
theorem SAct.Good.kept {w w' : World} {y : SAct} (h : y.Good w) (k : Keeps NoB w w') : y.Good w' :=
  { h with strs := h.strs.keeps k (fun _ _ _ _ f => f), torn := h.torn.kept k }
theorem SRd.at_ {w : World} {A : Option Addr} {l : List SAct} (h : SRd w A l) (i : Nat) (hi : i < l.length) : ∃ g o, A = some ⟨g, o, none⟩ ∧ w.cell? ⟨g, o + i * 5, none⟩ = some (.int .i64 (l[i]).kind) ∧ w.cell? ⟨g, o + i * 5 + 1, none⟩ = some (.slice (l[i]).AL (l[i]).L.length (l[i]).cL) ∧
    w.cell? ⟨g, o + i * 5 + 2, none⟩ = some (.int .i64 (l[i]).n) ∧ w.cell? ⟨g, o + i * 5 + 3, none⟩ = some (.int .i64 (l[i]).dir) ∧ w.cell? ⟨g, o + i * 5 + 4, none⟩ = some (.slice (l[i]).At (l[i]).T.length (l[i]).ct) := by
  obtain ⟨g, o, e, hc⟩ := h i hi
  exact ⟨g, o, e, hc 0 _ rfl, hc 1 _ rfl, hc 2 _ rfl, hc 3 _ rfl, hc 4 _ rfl⟩
theorem cellsSAct : Tryz.prog.cellsOf 38 = 5 := by kernel_rfl
theorem cellsStrs : Tryz.prog.cellsOf 33 = 1 := by kernel_rfl
section
variable {H : Type} {enc : TypeId × Value → H} {w : World} {held : Bool} {fuel : Nat}
theorem strs_each {A : Option Addr} {n c : Nat} {x : DataW H × List MemPlace} (h : DataW.trod enc Tryz.prog w 0 (fun _ => true) held fuel 33 [.slice A n c] = some x) (hw : ∀ m ∈ x.1.weights Tryz.prog 33, m ≤ reachBytes) :
    ∃ l : List (List UInt8), l.length = n ∧ VRd w A (strs l) ∧ n ≤ maxLen ∧ ∀ s ∈ l, s.length ≤ 140737488351232 := by
  obtain ⟨l, hl, hv, hm, hx⟩ := op_strs h
  refine ⟨l, hl, hv, hm, fun s hs => ?_⟩
  rcases hx with ⟨_, h0⟩ | ⟨el, sp, e1, e2⟩
  · rw [h0] at hl
    rw [List.eq_nil_of_length_eq_zero hl] at hs
    cases hs
  · have hin : DataW.lit (Lit.string s) ∈ el := by rw [e2]; exact List.mem_map.2 ⟨s, hs, rfl⟩
    have := hw s.length (by
      rw [e1]
      simp only [DataW.weights, Tryz.underlying33]
      exact List.mem_cons_of_mem _ (List.mem_append.2 (.inl (weights_all hin (by simp [DataW.weights])))))
    simpa [reachBytes] using this
set_option maxRecDepth 20000 in
theorem op_sact {cs : List Value} {x : DataW H × List MemPlace} (hl : cs.length = 5) (h : DataW.trod enc Tryz.prog w 0 (fun _ => true) held fuel 38 cs = some x) (hw : ∀ m ∈ x.1.weights Tryz.prog 38, m ≤ reachBytes) :
    ∃ y : SAct, cs = y.cells ∧ y.Good w := by
  obtain ⟨xs, n, _, hx, _, hxl, hf⟩ := DataW.trod_struct Tryz.underlying38 h
  match xs, hxl, cs, hl with
  | [y0, y1, y2, y3], _, [v0, v1, v2, v3, v4], _ =>
    have g0 := hf 0 _ rfl
    have g1 := hf 1 _ rfl
    have g2 := hf 2 _ rfl
    have g3 := hf 3 _ rfl
    simp [cellsIntA, cellsStrs, cellsWreck] at g0 g1 g2 g3
    have hW : ∀ m ∈ DataW.weightsEach Tryz.prog [3, 33, 3, 36] [y0.1, y1.1, y2.1, y3.1], m ≤ reachBytes := fun m hm => hw m (by
      rw [hx]
      simp only [DataW.weights, Tryz.underlying38]
      exact hm)
    obtain ⟨k0, rfl, q0⟩ := op_int g0
    obtain ⟨A1, n1, c1, rfl⟩ := slice_shape Tryz.underlying33 g1
    obtain ⟨L, rfl, hv, hm, he⟩ := strs_each g1 (fun m hm => hW m (DataW.weights_mem_each (j := 1) rfl rfl m hm))
    obtain ⟨k2, rfl, q2⟩ := op_int g2
    obtain ⟨dir, At, ct, T, rfl, rfl, hd, h1, h2, h3⟩ := op_wreck2 g3 (fun m hm => hW m (DataW.weights_mem_each (j := 3) rfl rfl m hm))
    exact ⟨⟨k0, A1, c1, L, k2, dir, At, ct, T⟩, rfl, q0, q2, hd, hv, hm, he, h1, h3, h2⟩
set_option maxRecDepth 20000 in
theorem op_sacts {A : Option Addr} {n c : Nat} {x : DataW H × List MemPlace} (h : DataW.trod enc Tryz.prog w 0 (fun _ => true) held fuel 22 [.slice A n c] = some x) (hw : ∀ m ∈ x.1.weights Tryz.prog 22, m ≤ reachBytes) :
    ∃ l : List SAct, l.length = n ∧ SRd w A l ∧ (∀ y ∈ l, y.Good w) ∧ n ≤ maxLen := by
  rcases Go.Deep.open_slice Tryz.underlying22 h with ⟨hcs, _⟩ | ⟨a, len, cap, m, k, D, Pl, hcs, _, hl, hm, hmm, rfl, hx⟩
  · simp at hcs
    obtain ⟨rfl, rfl, rfl⟩ := hcs
    exact ⟨[], rfl, (fun i hi => by simp at hi), by simp, Nat.zero_le _⟩
  · simp at hcs
    obtain ⟨rfl, rfl, rfl⟩ := hcs
    have hmn : n ≤ m := by rw [hmm]; split <;> omega
    have each : ∀ r : Fin n, ∃ y : SAct, (∀ j u, y.cells[j]? = some u → w.cell? ((a.add (r.val * 5)).add j) = some u) ∧ y.Good w := fun r => by
      obtain ⟨cs', h1, h2⟩ := hx r.val (by have := r.isLt; omega)
      rw [cellsSAct] at h1
      obtain ⟨_, hlen, hcell⟩ := World.cells?_some h1
      obtain ⟨y, rfl, hy⟩ := op_sact hlen h2 (fun q hq => hw q (by
        simp only [DataW.weights, Tryz.underlying22]
        exact List.mem_cons_of_mem _ (List.mem_append.2 (.inl (weights_all (List.mem_map.2 ⟨r.val, List.mem_range.2 r.isLt, rfl⟩) hq)))))
      refine ⟨y, fun j u hj => ?_, hy⟩
      obtain ⟨hlt, e⟩ := List.getElem?_eq_some_iff.1 hj
      rw [hcell j (by omega), hj]
    obtain ⟨Y, hY⟩ : ∃ Y : Fin n → SAct, ∀ r, (∀ j u, (Y r).cells[j]? = some u → w.cell? ((a.add (r.val * 5)).add j) = some u) ∧ (Y r).Good w := ⟨fun r => (each r).choose, fun r => (each r).choose_spec⟩
    clear each
    refine ⟨(List.finRange n).map Y, by simp, fun i hi => ?_, fun y hy => ?_, by omega⟩
    · have hin : i < n := by simpa using hi
      have h0 := (hY ⟨0, by omega⟩).1 0 _ rfl
      have h0' : w.cell? a = some (.int .i64 (Y ⟨0, by omega⟩).kind) := by
        have e : (a.add (0 * 5)).add 0 = a := by rw [Nat.zero_mul, add_zero, add_zero]
        rw [← e]; exact h0
      have hs := spot_of_cell h0'
      obtain ⟨b, o, s⟩ := a
      have hs' : s = none := hs.1
      subst hs'
      refine ⟨b, o, rfl, fun j u hj => ?_⟩
      have hj' : (Y ⟨i, hin⟩).cells[j]? = some u := by simpa using hj
      have := (hY ⟨i, hin⟩).1 j u hj'
      rw [add_lit, add_lit] at this
      exact this
    · obtain ⟨r, _, rfl⟩ := List.mem_map.1 hy
      exact (hY r).2
end
end Go.Proofs.YtdjamijbhaplgaaGreat
