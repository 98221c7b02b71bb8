/- symtab: the document's Add. -/
import Derived.Test.YtdjamijbhaplgaaGreatSymV
import Derived.Test.YtdjamijbhaplgaaGreatChain
import Derived.Test.YtdjamijbhaplgaaGreatSymAd
namespace Go.Proofs.YtdjamijbhaplgaaGreat
open Go.RowKit Go.Maps Go.Lib

section
variable {w w' : World} {base b : Nat} {ss l : List (List UInt8)} {e : Ending}
theorem rintern_no (hE : internE ss l ≠ 0) (h : RInternPost w base b ss l e w') : e = .returned (.tuple #[.slice none 0 0, .slice none 0 0, .int .i64 (internE ss l)]) ∧ Keeps NoB w w' := by
  rcases h with ⟨_, h1, h2⟩ | ⟨h1, _⟩
  · exact ⟨h1, h2⟩
  · exact absurd h1 hE
theorem rintern_yes (hE : internE ss l = 0) (h : RInternPost w base b ss l e w') : ∃ A' c' Ao co Ab cb, e = .returned (.tuple #[.slice Ao (outL ss l).length co, .slice Ab ((addedL ss l).flatMap frameL).length cb, .int .i64 0]) ∧ IsR w' base b A' c' (internL ss l) ∧
    OwnV w' 3 (.slice Ao (outL ss l).length co) (ints (outL ss l)) ∧ OwnV w' 5 (.slice Ab ((addedL ss l).flatMap frameL).length cb) (bvs ((addedL ss l).flatMap frameL)) ∧ Fresh w (.slice Ao (outL ss l).length co) ∧ Fresh w (.slice Ab ((addedL ss l).flatMap frameL).length cb) ∧
    Fresh w (.slice A' (internL ss l).length c') ∧ Keeps (OneB b) w w' := by
  rcases h with ⟨h1, _⟩ | ⟨_, A', c', Ao, co, Ab, cb, h2, h3, h4, h5, h6, h7, h8, h9⟩
  · exact absurd hE h1
  · rw [← outL_len ss l] at h2 h4 h6
    exact ⟨A', c', Ao, co, Ab, cb, h2, h3, h4, h5, h6, h7, h8, h9⟩
end
def arJ (w0 w2 : World) (T : Nat → Prop) (b rb : Nat) (s t t' : FSt) (n : Nat) (w : World) : Prop := HalfT w0 T b rb s (if n = 0 then t else t') w ∧ Keeps (offT w0 T) w2 w
theorem arJ.mk0 {w0 w2 : World} {T : Nat → Prop} {b rb : Nat} {s t t' : FSt} {w : World} (h : HalfT w0 T b rb s t w) (k : Keeps (offT w0 T) w2 w) : arJ w0 w2 T b rb s t t' 0 w := ⟨by rw [if_pos rfl]; exact h, k⟩
theorem arJ.mk1 {w0 w2 : World} {T : Nat → Prop} {b rb : Nat} {s t t' : FSt} {w : World} (h : HalfT w0 T b rb s t' w) (k : Keeps (offT w0 T) w2 w) : arJ w0 w2 T b rb s t t' 1 w := ⟨by rw [if_neg (by decide)]; exact h, k⟩
/-- What the document's Add answers. -/
def RAddP (w0 w : World) (T : Nat → Prop) (b rb f tb : Nat) (s : FSt) (n : Int) (out : List Nat) (R : Int × FSt × List (List UInt8)) (e : Ending) (w' : World) : Prop :=
  Keeps (fun i => offT w0 T i ∨ i = tb) w w' ∧ ∃ A c Ao co, e = .returned (.tuple #[.slice Ao (if R.1 = 0 then out else []).length co, .int .i64 R.1]) ∧ HalfT w0 (fun k => T k ∨ tabRB f tb A c R.2.2 k) b rb s R.2.1 w' ∧ TabR w' w0.heap.size rb f tb A c n R.2.2 ∧
    OwnV w' 3 (.slice Ao (if R.1 = 0 then out else []).length co) (ints (if R.1 = 0 then out else [])) ∧ ∀ k, (Value.slice Ao (if R.1 = 0 then out else []).length co).ownBlock = some k → w.heap.size ≤ k
theorem RAddP.yes {w0 w w' : World} {T : Nat → Prop} {b rb f tb : Nat} {A Ao : Option Addr} {c co : Nat} {s t : FSt} {n : Int} {out : List Nat} {l : List (List UInt8)} (hk : Keeps (fun i => offT w0 T i ∨ i = tb) w w')
    (h : HalfT w0 (fun k => T k ∨ (Value.slice A l.length c).ownBlock = some k) b rb s t w') (hb : w'.heap[f]? = some (.cells #[.pointer (some ⟨tb, 0, none⟩), .pointer (some ⟨rb, 0, none⟩), .int .i64 n] 48 (0, 0))) (hf : T f ∧ T tb ∧ w0.heap.size ≤ f)
    (ht : IsR w' w0.heap.size tb A c l) (ho : OwnV w' 3 (.slice Ao out.length co) (ints out)) (hfo : Fresh w (.slice Ao out.length co)) :
    RAddP w0 w T b rb f tb s n out (0, t, l) (.returned (.tuple #[.slice Ao out.length co, .int .i64 0])) w' := by
  unfold RAddP
  dsimp only
  rw [if_pos rfl]
  refine ⟨hk, A, c, Ao, co, rfl, h.less (fun i hi => ?_), ⟨hb, hf.2.2, ht⟩, ho, hfo⟩
  rcases hi with hi | rfl | rfl | hi
  · exact .inl hi
  · exact .inl hf.1
  · exact .inl hf.2.1
  · exact .inr hi
/-- The table is as it was. -/
theorem RAddP.no {w0 w w' wy : World} {T : Nat → Prop} {b rb f tb : Nat} {A : Option Addr} {c : Nat} {s t : FSt} {n E : Int} {out : List Nat} {l : List (List UInt8)} {v : Value} (hE : E ≠ 0) (hk : Keeps (fun i => offT w0 T i ∨ i = tb) w w')
    (h : HalfT w0 (fun k => T k ∨ (Value.slice A l.length c).ownBlock = some k) b rb s t w') (hb : w'.heap[f]? = some (.cells #[.pointer (some ⟨tb, 0, none⟩), .pointer (some ⟨rb, 0, none⟩), .int .i64 n] 48 (0, 0))) (hf : T f ∧ T tb ∧ w0.heap.size ≤ f ∧ f ≠ tb ∧ w0.heap.size ≤ tb)
    (htb : w'.heap[tb]? = some (.cells #[v] 68 (0, 0))) (ho : OwnV w' 9 (.slice A l.length c) (strs l)) (hfo : Fresh w (.slice A l.length c)) (hs : w0.heap.size ≤ w.heap.size)
    (hwy : wy = w'.setCell ⟨tb, 0, none⟩ (.slice A l.length c)) :
    RAddP w0 w T b rb f tb s n out (E, t, l) (.returned (.tuple #[.slice none 0 0, .int .i64 E])) wy := by
  have hF : Keeps (OneB tb) w' wy := by
    rw [hwy]
    exact (Keeps.refl (OneB tb) w').setCell ⟨tb, 0, none⟩ _ (fun _ => rfl)
  unfold RAddP
  dsimp only
  rw [if_neg hE]
  refine ⟨hk.trans hF (fun _ _ f => f) (fun i _ f => .inr f), A, c, none, 0, rfl, (h.other hF (fun i (e : i = tb) => by rw [e]; exact ⟨.inl hf.2.1, hf.2.2.2.2⟩) (fun i hi => ⟨.inl hi, Nat.lt_of_lt_of_le (h.lt hi) hF.size⟩)).less (fun i hi => ?_), ⟨hF.obj hb (fun (e : f = tb) => hf.2.2.2.1 e), hf.2.2.1, ⟨?_, ho.keeps hF (fun i hi (e : i = tb) => ?_), hf.2.2.2.2, fun i hi => Nat.le_trans hs (hfo i hi)⟩⟩, ?_, fun k hk => by cases hk⟩
  · rcases hi with hi | rfl | rfl | hi
    · exact .inl hi
    · exact .inl hf.1
    · exact .inl hf.2.1
    · exact .inr hi
  · rw [hwy]
    exact blk_set htb 0 _
  · subst e
    exact ho.ne_blk htb (by decide) hi
  · exact World.ownsRow_nil _ _ _ _
set_option maxHeartbeats 8000000 in
set_option maxRecDepth 100000 in
theorem raddf_any {w0 w : World} {T : Nat → Prop} {b rb N f tb : Nat} {A : Option Addr} {c : Nat} {n : Int} {l : List (List UInt8)} {s t : FSt} (h : HalfT w0 T b rb s t w) (ht : TabR w w0.heap.size rb f tb A c n l) (hT : ∀ k, tabRB f tb A c l k → T k) (g : GoodT l) (inv : Inv N t) (hN : N ≤ 800000000)
    (A1 : Option Addr) (c1 : Nat) (ss : List (List UInt8)) (hv : VRd w A1 (strs ss)) (hsz : ∀ s ∈ ss, s.length ≤ 140737488355328) (hsl : ss.length ≤ 65536) (hbl : ((addedL ss l).flatMap frameL).length ≤ 70368744177664) :
    Calls Tryz.prog 20 #[.pointer (some ⟨f, 0, none⟩), .slice A1 ss.length c1] w (RAddP w0 w T b rb f tb s n (outL ss l) (t.addT n ss l)) := by
  have hgl := g.len
  have HIG : Sd (∀ w1, Keeps NoB w w1 → Calls Tryz.prog 56 #[.pointer (some ⟨tb, 0, none⟩), .slice A1 ss.length c1] w1 (RInternPost w1 w0.heap.size tb ss l)) := ⟨fun w1 k1 =>
    trintern_any w1 w0.heap.size tb A c l (ht.tab.kept k1) (Nat.le_trans h.keeps.size k1.size) A1 c1 ss (hv.keeps k1 (fun _ _ _ _ f => f)) hsz hgl hsl⟩
  have H := Sd.mk h
  have HA := Sd.mk ht
  have HT := Sd.mk hT
  have HI := Sd.mk inv
  have HVL : Sd (VRd w A (strs l)) := ⟨ht.tab.own.vrd.2.2.2.2.2⟩
  have p0 : w.cell? ⟨f, 0, none⟩ = some (.pointer (some ⟨tb, 0, none⟩)) := blk_cell ht.blk 0
  have q0 : w.cell? ⟨tb, 0, none⟩ = some (.slice A l.length c) := blk_cell ht.tab.blk 0
  have p0' : (w.alloc (.cells #[] 9)).cell? ⟨f, 0, none⟩ = some (.pointer (some ⟨tb, 0, none⟩)) := ((Keeps.refl NoB w).alloc _).cell p0 (fun f => f)
  have q0' : (w.alloc (.cells #[] 9)).cell? ⟨tb, 0, none⟩ = some (.slice A l.length c) := ((Keeps.refl NoB w).alloc _).cell q0 (fun f => f)
  have HTB := Sd.mk ht.tab.blk
  have HFT : Sd (f ≠ tb) := ⟨fun e => by
    have h1 := ht.blk
    rw [e, ht.tab.blk] at h1
    cases h1⟩
  have HTW := Sd.mk (fun k (hk : T k) => h.lt hk)
  have HTT0 : Sd (T tb) := ⟨hT tb (.inr (.inl rfl))⟩
  have HTLT : Sd (tb < w.heap.size) := ⟨HTW.o tb HTT0.o⟩
  have HFF : Sd (T f ∧ T tb ∧ w0.heap.size ≤ f ∧ f ≠ tb ∧ w0.heap.size ≤ tb) := ⟨⟨hT f (.inl rfl), HTT0.o, ht.f0, HFT.o, ht.tab.b0⟩⟩
  have hws : w0.heap.size ≤ w.heap.size := h.keeps.size
  obtain ⟨R, hR⟩ : ∃ R, R = t.addT n ss l := ⟨_, rfl⟩
  rw [← hR]
  unfold FSt.addT at hR
  clear h ht hT inv hv hsz g q0
  by_cases hE : internE ss l = 0
  case neg =>
    rw [if_pos hE] at hR
    have HE := Sd.mk hE
    obtain ⟨E, hEE⟩ : ∃ E, E = internE ss l := ⟨_, rfl⟩
    have HEE := Sd.mk hEE
    have hE0 : E ≠ 0 := by rw [hEE]; exact hE
    rw [← hEE] at hR
    have HF : Sd (R = (E, t, l) ∧ E ≠ 0) := ⟨hR, hE0⟩
    have hb1 : (E == 0) = false := by simpa using hE0
    have hb2 : (E != 0) = true := by simpa using hE0
    clear hR hE hEE hE0
    go_enter Tryz.func20, Tryz.ntmps20
    go_wp2_with (first
      | (at_builtin; go_must (refine app_any rfl _ _ 33 9 (.string ⟨#[]⟩) 16 rfl Tryz.underlying33 infoStr rfl (.slice (some ⟨w.heap.size, 0, none⟩) 0 0) [] rfl (own_lit w 9 [] (by simp)) A l.length c (strs l) rfl (strs_len l) (HVL.o.keeps ((Keeps.refl NoB w).alloc _) (fun _ _ _ _ f => f)) (fun u hu => by simp only [strs, List.mem_map] at hu; obtain ⟨x, _, rfl⟩ := hu; rfl) (by simp; omega) (by simp; omega) ?_); intro Aw cw w1 hO1 hK1 hG1; simp only [List.length_nil, Nat.zero_add, List.nil_append] at hO1 hG1 ⊢; have OW := Sd.mk hO1; have K1 : Sd (Keeps NoB w w1) := ⟨(Keeps.refl NoB w).late hK1.undoalloc (fun i hi => fresh_lit w 0 0 i hi)⟩; have FW : Sd (Fresh w (.slice Aw l.length cw)) := ⟨(fresh_lit w 0 0).grew (Nat.le_refl _) hG1.undoalloc⟩; have HIN := Sd.mk (HIG.o w1 K1.o); have pf1 := K1.o.cell p0 (fun f => f); clear hO1 hK1 hG1)
      | (go_at_call 56; refine (HIN.o.mono fun e w' hp => rintern_no HE.o hp).mono ?_; rw [← HEE.o]; rintro e w2 ⟨rfl, k2⟩; have K2 := Sd.mk (K1.o.then k2); have OW2 := Sd.mk (OW.o.keeps k2 (fun _ _ f => f)); have pf2 := K2.o.cell p0 (fun f => f); have hB2 := K2.o.obj HTB.o (fun f => f); have pt2 := blk_cell hB2 0; have pz2 := blk_frozen hB2 0; clear hB2 k2))
    go_ret2
    obtain ⟨q1, q2⟩ := HF.o
    subst q1
    have hH2 : HalfT w0 (fun k => T k ∨ (Value.slice Aw l.length cw).ownBlock = some k) b rb s t w2 := H.o.other K2.o (fun _ f => f.elim) (fun i hi => by
      rcases hi with hi | hi
      · exact ⟨.inl hi, Nat.lt_of_lt_of_le (HTW.o i hi) K2.o.size⟩
      · exact ⟨.inr (FW.o i hi), OW2.o.lt i hi⟩)
    exact RAddP.no q2 (K2.o.mono (fun _ _ f => f.elim)) hH2 (K2.o.obj HA.o.blk (fun f => f)) HFF.o (K2.o.obj HTB.o (fun f => f)) OW2.o FW.o hws rfl
  rw [if_neg (fun e => e hE)] at hR
  have HE := Sd.mk hE
  clear hE
  obtain ⟨X, hX⟩ : ∃ X, X = (addedL ss l).flatMap frameL := ⟨_, rfl⟩
  obtain ⟨O, hO⟩ : ∃ O, O = outL ss l := ⟨_, rfl⟩
  obtain ⟨L2, hL⟩ : ∃ L2, L2 = internL ss l := ⟨_, rfl⟩
  have HX := Sd.mk hX
  have HO := Sd.mk hO
  have HL := Sd.mk hL
  rw [← hX, ← hL] at hR
  rw [← hX] at hbl
  rw [← hO]
  clear hX hO hL
  by_cases hx : X.length = 0
  · rw [if_pos hx] at hR
    have HF : Sd (R = (0, t, L2)) := ⟨hR⟩
    have hq : ¬ (0 : Int) < (X.length : Int) := by omega
    clear hR hx hbl
    go_enter Tryz.func20, Tryz.ntmps20
    go_wp2_with (first
      | (at_builtin; go_must (refine app_any rfl _ _ 33 9 (.string ⟨#[]⟩) 16 rfl Tryz.underlying33 infoStr rfl (.slice (some ⟨w.heap.size, 0, none⟩) 0 0) [] rfl (own_lit w 9 [] (by simp)) A l.length c (strs l) rfl (strs_len l) (HVL.o.keeps ((Keeps.refl NoB w).alloc _) (fun _ _ _ _ f => f)) (fun u hu => by simp only [strs, List.mem_map] at hu; obtain ⟨x, _, rfl⟩ := hu; rfl) (by simp; omega) (by simp; omega) ?_); intro Aw cw w1 hO1 hK1 hG1; simp only [List.length_nil, Nat.zero_add, List.nil_append] at hO1 hG1 ⊢; have OW := Sd.mk hO1; have K1 : Sd (Keeps NoB w w1) := ⟨(Keeps.refl NoB w).late hK1.undoalloc (fun i hi => fresh_lit w 0 0 i hi)⟩; have FW : Sd (Fresh w (.slice Aw l.length cw)) := ⟨(fresh_lit w 0 0).grew (Nat.le_refl _) hG1.undoalloc⟩; have HIN := Sd.mk (HIG.o w1 K1.o); have pf1 := K1.o.cell p0 (fun f => f); clear hO1 hK1 hG1)
      | (go_at_call 56; refine (HIN.o.mono fun e w' hp => rintern_yes HE.o hp).mono ?_; rw [← HX.o, ← HO.o, ← HL.o]; rintro e w2 ⟨A3, c3, Ao, co, Ab, cb, rfl, t2, o2, x2, fo, fx, f3, k2⟩; have K2 : Sd (Keeps (OneB tb) w w2) := ⟨(K1.o.mono (fun _ _ f => f.elim)).trans k2 (fun _ _ f => f) (fun _ _ f => f)⟩; have T2 := Sd.mk t2; have O2 := Sd.mk o2; have X2 := Sd.mk x2; have hs1 := K1.o.size; have FO : Sd (Fresh w (.slice Ao O.length co)) := ⟨fun i hi => Nat.le_trans hs1 (fo i hi)⟩; have FX : Sd (Fresh w (.slice Ab X.length cb)) := ⟨fun i hi => Nat.le_trans hs1 (fx i hi)⟩; have F3 : Sd (Fresh w (.slice A3 L2.length c3)) := ⟨fun i hi => Nat.le_trans hs1 (f3 i hi)⟩; have OW2 := Sd.mk (OW.o.keeps k2 (fun i hi (f : i = tb) => by have := FW.o i hi; have := HTLT.o; omega)); clear t2 o2 x2 fo fx f3 k2 hs1))
    go_ret2
    have HBf : Sd (w2.heap[f]? = some (.cells #[.pointer (some ⟨tb, 0, none⟩), .pointer (some ⟨rb, 0, none⟩), .int .i64 n] 48 (0, 0))) := ⟨K2.o.obj HA.o.blk (fun (e : f = tb) => HFT.o e)⟩
    have HH : Sd (HalfT w0 (fun k => T k ∨ (Value.slice A3 L2.length c3).ownBlock = some k ∨ (Value.slice Ao O.length co).ownBlock = some k ∨ (Value.slice Ab X.length cb).ownBlock = some k ∨ (Value.slice Aw l.length cw).ownBlock = some k) b rb s t w2) := ⟨H.o.other K2.o (fun i (e : i = tb) => by rw [e]; exact ⟨HTT0.o, HA.o.tab.b0⟩) (fun i hi => by
      rcases hi with hi | hi | hi | hi | hi
      · exact ⟨.inl hi, Nat.lt_of_lt_of_le (HTW.o i hi) K2.o.size⟩
      · exact ⟨.inr (F3.o i hi), T2.o.own.lt i hi⟩
      · exact ⟨.inr (FO.o i hi), O2.o.lt i hi⟩
      · exact ⟨.inr (FX.o i hi), X2.o.lt i hi⟩
      · exact ⟨.inr (FW.o i hi), OW2.o.lt i hi⟩)⟩
    obtain ⟨rfl⟩ := HF
    exact RAddP.yes (K2.o.mono (fun _ _ f => .inr f)) (HH.o.less (fun i hi => hi.elim .inl (fun h => .inr (.inl h)))) HBf.o ⟨HFF.o.1, HFF.o.2.1, HFF.o.2.2.1⟩ T2.o O2.o FO.o
  rw [if_neg hx] at hR
  have hq : (0 : Int) < (X.length : Int) := by omega
  obtain ⟨C, hC⟩ : ∃ C, C = t.append n X := ⟨_, rfl⟩
  have HC := Sd.mk hC
  rw [← hC] at hR
  clear hC hx
  by_cases hc : C.1 = 0
  case neg =>
    rw [if_pos hc] at hR
    have HF : Sd (R = (C.1, C.2, l) ∧ C.1 ≠ 0) := ⟨hR, hc⟩
    have hb2 : (C.1 != 0) = true := by simpa using hc
    clear hR hc
    go_enter Tryz.func20, Tryz.ntmps20
    go_upto_region 4 with (first
      | (at_builtin; go_must (refine app_any rfl _ _ 33 9 (.string ⟨#[]⟩) 16 rfl Tryz.underlying33 infoStr rfl (.slice (some ⟨w.heap.size, 0, none⟩) 0 0) [] rfl (own_lit w 9 [] (by simp)) A l.length c (strs l) rfl (strs_len l) (HVL.o.keeps ((Keeps.refl NoB w).alloc _) (fun _ _ _ _ f => f)) (fun u hu => by simp only [strs, List.mem_map] at hu; obtain ⟨x, _, rfl⟩ := hu; rfl) (by simp; omega) (by simp; omega) ?_); intro Aw cw w1 hO1 hK1 hG1; simp only [List.length_nil, Nat.zero_add, List.nil_append] at hO1 hG1 ⊢; have OW := Sd.mk hO1; have K1 : Sd (Keeps NoB w w1) := ⟨(Keeps.refl NoB w).late hK1.undoalloc (fun i hi => fresh_lit w 0 0 i hi)⟩; have FW : Sd (Fresh w (.slice Aw l.length cw)) := ⟨(fresh_lit w 0 0).grew (Nat.le_refl _) hG1.undoalloc⟩; have HIN := Sd.mk (HIG.o w1 K1.o); have pf1 := K1.o.cell p0 (fun f => f); clear hO1 hK1 hG1)
      | (go_at_call 56; refine (HIN.o.mono fun e w' hp => rintern_yes HE.o hp).mono ?_; rw [← HX.o, ← HO.o, ← HL.o]; rintro e w2 ⟨A3, c3, Ao, co, Ab, cb, rfl, t2, o2, x2, fo, fx, f3, k2⟩; have K2 : Sd (Keeps (OneB tb) w w2) := ⟨(K1.o.mono (fun _ _ f => f.elim)).trans k2 (fun _ _ f => f) (fun _ _ f => f)⟩; have T2 := Sd.mk t2; have O2 := Sd.mk o2; have X2 := Sd.mk x2; have hs1 := K1.o.size; have FO : Sd (Fresh w (.slice Ao O.length co)) := ⟨fun i hi => Nat.le_trans hs1 (fo i hi)⟩; have FX : Sd (Fresh w (.slice Ab X.length cb)) := ⟨fun i hi => Nat.le_trans hs1 (fx i hi)⟩; have F3 : Sd (Fresh w (.slice A3 L2.length c3)) := ⟨fun i hi => Nat.le_trans hs1 (f3 i hi)⟩; have OW2 := Sd.mk (OW.o.keeps k2 (fun i hi (f : i = tb) => by have := FW.o i hi; have := HTLT.o; omega)); clear t2 o2 x2 fo fx f3 k2 hs1))
    have HBf : Sd (w2.heap[f]? = some (.cells #[.pointer (some ⟨tb, 0, none⟩), .pointer (some ⟨rb, 0, none⟩), .int .i64 n] 48 (0, 0))) := ⟨K2.o.obj HA.o.blk (fun (e : f = tb) => HFT.o e)⟩
    have HH : Sd (HalfT w0 (fun k => T k ∨ (Value.slice A3 L2.length c3).ownBlock = some k ∨ (Value.slice Ao O.length co).ownBlock = some k ∨ (Value.slice Ab X.length cb).ownBlock = some k ∨ (Value.slice Aw l.length cw).ownBlock = some k) b rb s t w2) := ⟨H.o.other K2.o (fun i (e : i = tb) => by rw [e]; exact ⟨HTT0.o, HA.o.tab.b0⟩) (fun i hi => by
      rcases hi with hi | hi | hi | hi | hi
      · exact ⟨.inl hi, Nat.lt_of_lt_of_le (HTW.o i hi) K2.o.size⟩
      · exact ⟨.inr (F3.o i hi), T2.o.own.lt i hi⟩
      · exact ⟨.inr (FO.o i hi), O2.o.lt i hi⟩
      · exact ⟨.inr (FX.o i hi), X2.o.lt i hi⟩
      · exact ⟨.inr (FW.o i hi), OW2.o.lt i hi⟩)⟩
    have HAP : Sd (∀ wx, arJ w0 w2 (fun k => T k ∨ (Value.slice A3 L2.length c3).ownBlock = some k ∨ (Value.slice Ao O.length co).ownBlock = some k ∨ (Value.slice Ab X.length cb).ownBlock = some k ∨ (Value.slice Aw l.length cw).ownBlock = some k) b rb s t C.2 0 wx → Calls Tryz.prog 16 #[.pointer (some ⟨rb, 0, none⟩), .int .i64 n, .string (sOf X)] wx fun e w' => e = .returned (.int .i64 C.1) ∧ arJ w0 w2 (fun k => T k ∨ (Value.slice A3 L2.length c3).ownBlock = some k ∨ (Value.slice Ao O.length co).ownBlock = some k ∨ (Value.slice Ab X.length cb).ownBlock = some k ∨ (Value.slice Aw l.length cw).ownBlock = some k) b rb s t C.2 1 w') :=
      ⟨fun wx hJ => by
        have h0 := hJ.1
        rw [if_pos rfl] at h0
        have hc := xr_append h0 HI.o (by omega) n X hbl
        rw [← HC.o] at hc
        exact hc.mono fun e w' ⟨he, h1, h2⟩ => ⟨he, arJ.mk1 h1 (hJ.2.trans h2 (fun _ _ f => f) (fun _ _ f => f))⟩⟩
    have HJC : Sd (∀ k wx, arJ w0 w2 (fun k => T k ∨ (Value.slice A3 L2.length c3).ownBlock = some k ∨ (Value.slice Ao O.length co).ownBlock = some k ∨ (Value.slice Ab X.length cb).ownBlock = some k ∨ (Value.slice Aw l.length cw).ownBlock = some k) b rb s t C.2 k wx → wx.cell? ⟨f, 1, none⟩ = some (.pointer (some ⟨rb, 0, none⟩)) ∧ wx.cell? ⟨f, 2, none⟩ = some (.int .i64 n) ∧ (convert 49 9 (.slice Ab X.length cb)).run Tryz.prog wx = .ok (.string (sOf X)) wx) := ⟨fun k wx hJ => by
      have hb := hJ.2.obj HBf.o (fun e => e.1 (.inl (HT.o f (.inl rfl))))
      exact ⟨blk_cell hb 1, blk_cell hb 2, cv_bts (X2.o.keeps hJ.2 (fun i hi f => f.1 (.inr (.inr (.inr (.inl hi)))))).own.bts⟩⟩
    generalize hTT : (fun k => T k ∨ (Value.slice A3 L2.length c3).ownBlock = some k ∨ (Value.slice Ao O.length co).ownBlock = some k ∨ (Value.slice Ab X.length cb).ownBlock = some k ∨ (Value.slice Aw l.length cw).ownBlock = some k) = TT at *
    have HTT := Sd.mk hTT
    clear hTT
    refine wp_region_chain (J := arJ w0 w2 TT b rb s t C.2) (R := fun _ _ => True) [10] (fun _ => trivial) (by kernel_rfl) (by kernel_rfl) (by kernel_rfl) (arJ.mk0 (HH.o.kept (Keeps.refl NoB _).drew) ((Keeps.refl _ w2).drew)) ?_
    apply chain_const
    · intro _; kernel_rfl
    · rfl
    · intro ss wx n hJ hF
      obtain ⟨k1, k2, hcv⟩ := HJC.o n wx hJ
      clear hF
      unfold flowAt
      go_simp
      exact ⟨trivial, rfl, hJ⟩
    intro K hK
    go_simp
    refine hK _ ?_
    clear hK K
    apply chain_const
    · intro _; kernel_rfl
    · rfl
    · intro ss wx n hJ hF
      obtain ⟨k1, k2, hcv⟩ := HJC.o n wx hJ
      clear hF
      unfold flowAt
      go_simp
      exact ⟨trivial, rfl, hJ⟩
    intro K hK
    go_simp
    refine hK _ ?_
    clear hK K
    apply chain_const
    · intro _; kernel_rfl
    · rfl
    · intro ss wx n hJ hF
      obtain ⟨k1, k2, hcv⟩ := HJC.o n wx hJ
      clear hF
      unfold flowAt
      go_simp
      exact ⟨trivial, rfl, hJ⟩
    intro K hK
    go_simp
    refine hK _ ?_
    clear hK K
    apply chain_const
    · intro _; kernel_rfl
    · rfl
    · intro ss wx n hJ hF
      obtain ⟨k1, k2, hcv⟩ := HJC.o n wx hJ
      clear hF
      unfold flowAt
      go_simp
      exact ⟨trivial, rfl, hJ⟩
    intro K hK
    go_simp
    refine hK _ ?_
    clear hK K
    apply chain_const
    · intro _; kernel_rfl
    · rfl
    · intro ss wx n hJ hF
      obtain ⟨k1, k2, hcv⟩ := HJC.o n wx hJ
      clear hF
      unfold flowAt
      go_simp
      exact ⟨trivial, rfl, hJ⟩
    intro K hK
    go_simp
    refine hK _ ?_
    clear hK K
    apply chain_const
    · intro _; kernel_rfl
    · rfl
    · intro ss wx n hJ hF
      obtain ⟨k1, k2, hcv⟩ := HJC.o n wx hJ
      clear hF
      unfold flowAt
      go_simp
      exact ⟨trivial, rfl, hJ⟩
    intro K hK
    go_simp
    refine hK _ ?_
    clear hK K
    apply chain_const
    · intro _; kernel_rfl
    · rfl
    · intro ss wx n hJ hF
      obtain ⟨k1, k2, hcv⟩ := HJC.o n wx hJ
      clear hF
      unfold flowAt
      go_simp
      exact ⟨trivial, rfl, hJ⟩
    intro K hK
    go_simp
    refine hK _ ?_
    clear hK K
    apply chain_const
    · intro _; kernel_rfl
    · rfl
    · intro ss wx n hJ hF
      obtain ⟨k1, k2, hcv⟩ := HJC.o n wx hJ
      clear hF
      unfold flowAt
      go_simp
      exact ⟨trivial, rfl, hJ⟩
    intro K hK
    go_simp
    refine hK _ ?_
    clear hK K
    apply chain_const
    · intro _; kernel_rfl
    · rfl
    · intro ss wx n hJ hF
      obtain ⟨k1, k2, hcv⟩ := HJC.o n wx hJ
      clear hF
      unfold flowAt
      go_simp
      exact ⟨trivial, rfl, hJ⟩
    intro K hK
    go_simp
    refine hK _ ?_
    clear hK K
    apply chain_const
    · intro _; kernel_rfl
    · rfl
    · intro ss wx n hJ hF
      obtain ⟨k1, k2, hcv⟩ := HJC.o n wx hJ
      clear hF
      unfold flowAt
      go_simp
      exact ⟨trivial, rfl, hJ⟩
    intro K hK
    go_simp
    refine hK _ ?_
    clear hK K
    apply chain_step 0 (.int .i64 C.1)
    · intro _; kernel_rfl
    · rfl
    · intro ss wx hJ hF
      have h9 := hJ
      have HH9 := Sd.mk h9
      clear hF hJ h9
      unfold flowAt
      go_simp
      simp only [flowUpon]
      go_at_call 16
      refine (HAP.o wx HH9.o).mono ?_
      rintro e w' ⟨rfl, h1⟩
      exact ⟨_, rfl, trivial, rfl, h1⟩
    intro K hK
    go_simp
    refine hK _ ?_
    clear hK K
    apply chain_const
    · intro _; kernel_rfl
    · rfl
    · intro ss wx n hJ hF
      obtain ⟨k1, k2, hcv⟩ := HJC.o n wx hJ
      clear hF
      unfold flowAt
      go_simp
      exact ⟨trivial, rfl, hJ⟩
    intro K hK
    go_simp
    refine hK _ ?_
    clear hK K
    apply chain_nil
    intro s2 w6 hJ6 hF
    have H6 : Sd (HalfT w0 TT b rb s C.2 w6) := ⟨by have := hJ6.1; rw [if_neg (by decide)] at this; exact this⟩
    have K6 : Sd (Keeps (offT w0 TT) w2 w6) := ⟨hJ6.2⟩
    clear hF hJ6 HJC HAP
    obtain ⟨rfl⟩ := HTT
    go_simp
    have HBf6 := Sd.mk (K6.o.obj HBf.o (fun e => e.1 (.inl (HT.o f (.inl rfl)))))
    have HTb := Sd.mk (T2.o.keepsB K6.o (fun i hi e => by
      rcases hi with rfl | hi
      · exact e.1 (.inl HTT0.o)
      · exact e.1 (.inr (.inl hi))))
    have O6 := Sd.mk (O2.o.keeps K6.o (fun i hi e => e.1 (.inr (.inr (.inl hi)))))
    have OW6 := Sd.mk (OW2.o.keeps K6.o (fun i hi e => e.1 (.inr (.inr (.inr (.inr hi))))))
    have K26 : Sd (Keeps (fun i => offT w0 T i ∨ i = tb) w w6) := ⟨(K2.o.mono (fun _ _ f => .inr f)).trans (K6.o.mono (fun i _ f => .inl (offT.or f))) (fun _ _ f => f) (fun _ _ f => f)⟩
    have pf6 := blk_cell HBf6.o 0
    have pt6 := blk_cell HTb.o.blk 0
    have pz6 := blk_frozen HTb.o.blk 0
    go_wp2_with fail
    go_ret2
    obtain ⟨q1, q2⟩ := HF.o
    subst q1
    exact RAddP.no q2 K26.o (H6.o.less (fun i hi => hi.elim .inl (fun h => .inr (.inr (.inr (.inr h)))))) HBf6.o HFF.o HTb.o.blk OW6.o FW.o hws rfl
  rw [if_neg (fun e => e hc)] at hR
  have HF : Sd (R = (0, C.2, L2)) := ⟨hR⟩
  have hb2 : (C.1 != 0) = false := by simpa using hc
  clear hR hc
  go_enter Tryz.func20, Tryz.ntmps20
  go_upto_region 4 with (first
    | (at_builtin; go_must (refine app_any rfl _ _ 33 9 (.string ⟨#[]⟩) 16 rfl Tryz.underlying33 infoStr rfl (.slice (some ⟨w.heap.size, 0, none⟩) 0 0) [] rfl (own_lit w 9 [] (by simp)) A l.length c (strs l) rfl (strs_len l) (HVL.o.keeps ((Keeps.refl NoB w).alloc _) (fun _ _ _ _ f => f)) (fun u hu => by simp only [strs, List.mem_map] at hu; obtain ⟨x, _, rfl⟩ := hu; rfl) (by simp; omega) (by simp; omega) ?_); intro Aw cw w1 hO1 hK1 hG1; simp only [List.length_nil, Nat.zero_add, List.nil_append] at hO1 hG1 ⊢; have OW := Sd.mk hO1; have K1 : Sd (Keeps NoB w w1) := ⟨(Keeps.refl NoB w).late hK1.undoalloc (fun i hi => fresh_lit w 0 0 i hi)⟩; have FW : Sd (Fresh w (.slice Aw l.length cw)) := ⟨(fresh_lit w 0 0).grew (Nat.le_refl _) hG1.undoalloc⟩; have HIN := Sd.mk (HIG.o w1 K1.o); have pf1 := K1.o.cell p0 (fun f => f); clear hO1 hK1 hG1)
    | (go_at_call 56; refine (HIN.o.mono fun e w' hp => rintern_yes HE.o hp).mono ?_; rw [← HX.o, ← HO.o, ← HL.o]; rintro e w2 ⟨A3, c3, Ao, co, Ab, cb, rfl, t2, o2, x2, fo, fx, f3, k2⟩; have K2 : Sd (Keeps (OneB tb) w w2) := ⟨(K1.o.mono (fun _ _ f => f.elim)).trans k2 (fun _ _ f => f) (fun _ _ f => f)⟩; have T2 := Sd.mk t2; have O2 := Sd.mk o2; have X2 := Sd.mk x2; have hs1 := K1.o.size; have FO : Sd (Fresh w (.slice Ao O.length co)) := ⟨fun i hi => Nat.le_trans hs1 (fo i hi)⟩; have FX : Sd (Fresh w (.slice Ab X.length cb)) := ⟨fun i hi => Nat.le_trans hs1 (fx i hi)⟩; have F3 : Sd (Fresh w (.slice A3 L2.length c3)) := ⟨fun i hi => Nat.le_trans hs1 (f3 i hi)⟩; have OW2 := Sd.mk (OW.o.keeps k2 (fun i hi (f : i = tb) => by have := FW.o i hi; have := HTLT.o; omega)); clear t2 o2 x2 fo fx f3 k2 hs1))
  have HBf : Sd (w2.heap[f]? = some (.cells #[.pointer (some ⟨tb, 0, none⟩), .pointer (some ⟨rb, 0, none⟩), .int .i64 n] 48 (0, 0))) := ⟨K2.o.obj HA.o.blk (fun (e : f = tb) => HFT.o e)⟩
  have HH : Sd (HalfT w0 (fun k => T k ∨ (Value.slice A3 L2.length c3).ownBlock = some k ∨ (Value.slice Ao O.length co).ownBlock = some k ∨ (Value.slice Ab X.length cb).ownBlock = some k ∨ (Value.slice Aw l.length cw).ownBlock = some k) b rb s t w2) := ⟨H.o.other K2.o (fun i (e : i = tb) => by rw [e]; exact ⟨HTT0.o, HA.o.tab.b0⟩) (fun i hi => by
    rcases hi with hi | hi | hi | hi | hi
    · exact ⟨.inl hi, Nat.lt_of_lt_of_le (HTW.o i hi) K2.o.size⟩
    · exact ⟨.inr (F3.o i hi), T2.o.own.lt i hi⟩
    · exact ⟨.inr (FO.o i hi), O2.o.lt i hi⟩
    · exact ⟨.inr (FX.o i hi), X2.o.lt i hi⟩
    · exact ⟨.inr (FW.o i hi), OW2.o.lt i hi⟩)⟩
  have HAP : Sd (∀ wx, arJ w0 w2 (fun k => T k ∨ (Value.slice A3 L2.length c3).ownBlock = some k ∨ (Value.slice Ao O.length co).ownBlock = some k ∨ (Value.slice Ab X.length cb).ownBlock = some k ∨ (Value.slice Aw l.length cw).ownBlock = some k) b rb s t C.2 0 wx → Calls Tryz.prog 16 #[.pointer (some ⟨rb, 0, none⟩), .int .i64 n, .string (sOf X)] wx fun e w' => e = .returned (.int .i64 C.1) ∧ arJ w0 w2 (fun k => T k ∨ (Value.slice A3 L2.length c3).ownBlock = some k ∨ (Value.slice Ao O.length co).ownBlock = some k ∨ (Value.slice Ab X.length cb).ownBlock = some k ∨ (Value.slice Aw l.length cw).ownBlock = some k) b rb s t C.2 1 w') :=
    ⟨fun wx hJ => by
      have h0 := hJ.1
      rw [if_pos rfl] at h0
      have hc := xr_append h0 HI.o (by omega) n X hbl
      rw [← HC.o] at hc
      exact hc.mono fun e w' ⟨he, h1, h2⟩ => ⟨he, arJ.mk1 h1 (hJ.2.trans h2 (fun _ _ f => f) (fun _ _ f => f))⟩⟩
  have HJC : Sd (∀ k wx, arJ w0 w2 (fun k => T k ∨ (Value.slice A3 L2.length c3).ownBlock = some k ∨ (Value.slice Ao O.length co).ownBlock = some k ∨ (Value.slice Ab X.length cb).ownBlock = some k ∨ (Value.slice Aw l.length cw).ownBlock = some k) b rb s t C.2 k wx → wx.cell? ⟨f, 1, none⟩ = some (.pointer (some ⟨rb, 0, none⟩)) ∧ wx.cell? ⟨f, 2, none⟩ = some (.int .i64 n) ∧ (convert 49 9 (.slice Ab X.length cb)).run Tryz.prog wx = .ok (.string (sOf X)) wx) := ⟨fun k wx hJ => by
    have hb := hJ.2.obj HBf.o (fun e => e.1 (.inl (HT.o f (.inl rfl))))
    exact ⟨blk_cell hb 1, blk_cell hb 2, cv_bts (X2.o.keeps hJ.2 (fun i hi f => f.1 (.inr (.inr (.inr (.inl hi)))))).own.bts⟩⟩
  generalize hTT : (fun k => T k ∨ (Value.slice A3 L2.length c3).ownBlock = some k ∨ (Value.slice Ao O.length co).ownBlock = some k ∨ (Value.slice Ab X.length cb).ownBlock = some k ∨ (Value.slice Aw l.length cw).ownBlock = some k) = TT at *
  have HTT := Sd.mk hTT
  clear hTT
  refine wp_region_chain (J := arJ w0 w2 TT b rb s t C.2) (R := fun _ _ => True) [10] (fun _ => trivial) (by kernel_rfl) (by kernel_rfl) (by kernel_rfl) (arJ.mk0 (HH.o.kept (Keeps.refl NoB _).drew) ((Keeps.refl _ w2).drew)) ?_
  apply chain_const
  · intro _; kernel_rfl
  · rfl
  · intro ss wx n hJ hF
    obtain ⟨k1, k2, hcv⟩ := HJC.o n wx hJ
    clear hF
    unfold flowAt
    go_simp
    exact ⟨trivial, rfl, hJ⟩
  intro K hK
  go_simp
  refine hK _ ?_
  clear hK K
  apply chain_const
  · intro _; kernel_rfl
  · rfl
  · intro ss wx n hJ hF
    obtain ⟨k1, k2, hcv⟩ := HJC.o n wx hJ
    clear hF
    unfold flowAt
    go_simp
    exact ⟨trivial, rfl, hJ⟩
  intro K hK
  go_simp
  refine hK _ ?_
  clear hK K
  apply chain_const
  · intro _; kernel_rfl
  · rfl
  · intro ss wx n hJ hF
    obtain ⟨k1, k2, hcv⟩ := HJC.o n wx hJ
    clear hF
    unfold flowAt
    go_simp
    exact ⟨trivial, rfl, hJ⟩
  intro K hK
  go_simp
  refine hK _ ?_
  clear hK K
  apply chain_const
  · intro _; kernel_rfl
  · rfl
  · intro ss wx n hJ hF
    obtain ⟨k1, k2, hcv⟩ := HJC.o n wx hJ
    clear hF
    unfold flowAt
    go_simp
    exact ⟨trivial, rfl, hJ⟩
  intro K hK
  go_simp
  refine hK _ ?_
  clear hK K
  apply chain_const
  · intro _; kernel_rfl
  · rfl
  · intro ss wx n hJ hF
    obtain ⟨k1, k2, hcv⟩ := HJC.o n wx hJ
    clear hF
    unfold flowAt
    go_simp
    exact ⟨trivial, rfl, hJ⟩
  intro K hK
  go_simp
  refine hK _ ?_
  clear hK K
  apply chain_const
  · intro _; kernel_rfl
  · rfl
  · intro ss wx n hJ hF
    obtain ⟨k1, k2, hcv⟩ := HJC.o n wx hJ
    clear hF
    unfold flowAt
    go_simp
    exact ⟨trivial, rfl, hJ⟩
  intro K hK
  go_simp
  refine hK _ ?_
  clear hK K
  apply chain_const
  · intro _; kernel_rfl
  · rfl
  · intro ss wx n hJ hF
    obtain ⟨k1, k2, hcv⟩ := HJC.o n wx hJ
    clear hF
    unfold flowAt
    go_simp
    exact ⟨trivial, rfl, hJ⟩
  intro K hK
  go_simp
  refine hK _ ?_
  clear hK K
  apply chain_const
  · intro _; kernel_rfl
  · rfl
  · intro ss wx n hJ hF
    obtain ⟨k1, k2, hcv⟩ := HJC.o n wx hJ
    clear hF
    unfold flowAt
    go_simp
    exact ⟨trivial, rfl, hJ⟩
  intro K hK
  go_simp
  refine hK _ ?_
  clear hK K
  apply chain_const
  · intro _; kernel_rfl
  · rfl
  · intro ss wx n hJ hF
    obtain ⟨k1, k2, hcv⟩ := HJC.o n wx hJ
    clear hF
    unfold flowAt
    go_simp
    exact ⟨trivial, rfl, hJ⟩
  intro K hK
  go_simp
  refine hK _ ?_
  clear hK K
  apply chain_const
  · intro _; kernel_rfl
  · rfl
  · intro ss wx n hJ hF
    obtain ⟨k1, k2, hcv⟩ := HJC.o n wx hJ
    clear hF
    unfold flowAt
    go_simp
    exact ⟨trivial, rfl, hJ⟩
  intro K hK
  go_simp
  refine hK _ ?_
  clear hK K
  apply chain_step 0 (.int .i64 C.1)
  · intro _; kernel_rfl
  · rfl
  · intro ss wx hJ hF
    have h9 := hJ
    have HH9 := Sd.mk h9
    clear hF hJ h9
    unfold flowAt
    go_simp
    simp only [flowUpon]
    go_at_call 16
    refine (HAP.o wx HH9.o).mono ?_
    rintro e w' ⟨rfl, h1⟩
    exact ⟨_, rfl, trivial, rfl, h1⟩
  intro K hK
  go_simp
  refine hK _ ?_
  clear hK K
  apply chain_const
  · intro _; kernel_rfl
  · rfl
  · intro ss wx n hJ hF
    obtain ⟨k1, k2, hcv⟩ := HJC.o n wx hJ
    clear hF
    unfold flowAt
    go_simp
    exact ⟨trivial, rfl, hJ⟩
  intro K hK
  go_simp
  refine hK _ ?_
  clear hK K
  apply chain_nil
  intro s2 w6 hJ6 hF
  have H6 : Sd (HalfT w0 TT b rb s C.2 w6) := ⟨by have := hJ6.1; rw [if_neg (by decide)] at this; exact this⟩
  have K6 : Sd (Keeps (offT w0 TT) w2 w6) := ⟨hJ6.2⟩
  clear hF hJ6 HJC HAP
  obtain ⟨rfl⟩ := HTT
  go_simp
  have HBf6 := Sd.mk (K6.o.obj HBf.o (fun e => e.1 (.inl (HT.o f (.inl rfl)))))
  have HTb := Sd.mk (T2.o.keepsB K6.o (fun i hi e => by
    rcases hi with rfl | hi
    · exact e.1 (.inl HTT0.o)
    · exact e.1 (.inr (.inl hi))))
  have O6 := Sd.mk (O2.o.keeps K6.o (fun i hi e => e.1 (.inr (.inr (.inl hi)))))
  have OW6 := Sd.mk (OW2.o.keeps K6.o (fun i hi e => e.1 (.inr (.inr (.inr (.inr hi))))))
  have K26 : Sd (Keeps (fun i => offT w0 T i ∨ i = tb) w w6) := ⟨(K2.o.mono (fun _ _ f => .inr f)).trans (K6.o.mono (fun i _ f => .inl (offT.or f))) (fun _ _ f => f) (fun _ _ f => f)⟩
  go_wp2_with fail
  go_ret2
  obtain ⟨rfl⟩ := HF
  exact RAddP.yes K26.o (H6.o.less (fun i hi => hi.elim .inl (fun h => .inr (.inl h)))) HBf6.o ⟨HFF.o.1, HFF.o.2.1, HFF.o.2.2.1⟩ HTb.o O6.o FO.o
end Go.Proofs.YtdjamijbhaplgaaGreat
