/- symtab: the document's Open. -/
import Derived.Laws.IdiomStrings
import Derived.Test.YtdjamijbhaplgaaGreatGkbe
import Derived.Test.YtdjamijbhaplgaaGreatGkbg
import Derived.Test.YtdjamijbhaplgaaGreatSymU
namespace Go.Proofs.YtdjamijbhaplgaaGreat
open Go.RowKit Go.Maps Go.Lib

/-- '[]byte(s)'. -/
theorem cv_str (w : World) (p : List UInt8) (hp : p.length ≤ 9223372036854775807) : ∃ c w', (convert 9 49 (.string (sOf p))).run Tryz.prog w = .ok (.slice (some ⟨w.heap.size, 0, none⟩) p.length c) w' ∧ RowU w' (.slice (some ⟨w.heap.size, 0, none⟩) p.length c) p ∧ Keeps NoB w w' := by
  have hr := run_bytes_of_string (P := Tryz.prog) w 9 49 5 (sOf p) Tryz.underlying9 Tryz.underlying49 Tryz.underlying5
  rw [sOf_size] at hr
  have h1 := grownCap_ge w p.length 0 5
  have h2 := grownCap_le_maxLen w p.length 0 5 hp
  generalize grownCap w p.length 0 5 = cap at *
  have hb : (w.drew.alloc (.cells (bytesRow (sOf p) cap) 5 ((bytesRow (sOf p) cap).size, (bytesRow (sOf p) cap).size + 1))).heap[w.heap.size]? = some (.cells (bytesRow (sOf p) cap) 5 ((bytesRow (sOf p) cap).size, (bytesRow (sOf p) cap).size + 1)) := by
    show (w.heap.push _)[w.heap.size]? = _
    simp
  refine ⟨cap, _, hr, ⟨⟨_, _, rfl, h1, h2, fun e => (by cases e), fun _ a e => ?_, fun i hi => ⟨_, _, rfl, ?_⟩⟩, fun a n c e hc => ?_⟩, (Keeps.refl NoB w).drew.alloc _⟩
  · cases e
    exact ⟨rfl, (Array.getElem?_eq_some_iff.1 hb).1⟩
  · rw [Nat.zero_add, blk_cell hb i]
    unfold bytesRow
    have hs : i < (sOf p).data.size := by
      have h2 : (sOf p).data.size = p.length := sOf_size p
      omega
    rw [Array.getElem?_append_left (by simpa using hs)]
    simp [sOf, hi]
  · cases e
    exact ⟨_, _, hb⟩
structure TabR (w : World) (base rb f tb : Nat) (A : Option Addr) (c : Nat) (n : Int) (l : List (List UInt8)) : Prop where
  blk : w.heap[f]? = some (.cells #[.pointer (some ⟨tb, 0, none⟩), .pointer (some ⟨rb, 0, none⟩), .int .i64 n] 48 (0, 0))
  f0 : base ≤ f
  tab : IsR w base tb A c l
def rowRB (tb : Nat) (A : Option Addr) (c : Nat) (l : List (List UInt8)) : Nat → Prop := fun k => k = tb ∨ (Value.slice A l.length c).ownBlock = some k
def tabRB (f tb : Nat) (A : Option Addr) (c : Nat) (l : List (List UInt8)) : Nat → Prop := fun k => k = f ∨ rowRB tb A c l k
section
variable {w w' : World} {base rb f tb : Nat} {A : Option Addr} {c : Nat} {n : Int} {l : List (List UInt8)}
theorem IsR.lt (h : IsR w base tb A c l) : ∀ k, rowRB tb A c l k → k < w.heap.size := fun k hk => by
  rcases hk with rfl | hk
  · exact (Array.getElem?_eq_some_iff.1 h.blk).1
  · exact h.own.lt k hk
theorem IsR.from (h : IsR w base tb A c l) : ∀ k, rowRB tb A c l k → base ≤ k := fun k hk => by
  rcases hk with rfl | hk
  · exact h.b0
  · exact h.a0 k hk
theorem IsR.less {base' : Nat} (h : IsR w base tb A c l) (hb : base' ≤ base) : IsR w base' tb A c l := ⟨h.blk, h.own, Nat.le_trans hb h.b0, fun k hk => Nat.le_trans hb (h.a0 k hk)⟩
theorem IsR.keepsB {F : Nat → Prop} (h : IsR w base tb A c l) (k : Keeps F w w') (hF : ∀ i, rowRB tb A c l i → ¬ F i) : IsR w' base tb A c l :=
  ⟨k.obj h.blk (hF tb (.inl rfl)), h.own.keeps k (fun i hi => hF i (.inr hi)), h.b0, h.a0⟩
theorem TabR.lt (h : TabR w base rb f tb A c n l) : ∀ k, tabRB f tb A c l k → k < w.heap.size := fun k hk => by
  rcases hk with rfl | hk
  · exact (Array.getElem?_eq_some_iff.1 h.blk).1
  · exact h.tab.lt k hk
theorem TabR.ge (h : TabR w base rb f tb A c n l) : ∀ k, tabRB f tb A c l k → base ≤ k := fun k hk => by
  rcases hk with rfl | hk
  · exact h.f0
  · exact h.tab.from k hk
theorem TabR.keeps {F : Nat → Prop} (h : TabR w base rb f tb A c n l) (k : Keeps F w w') (hF : ∀ i, tabRB f tb A c l i → ¬ F i) : TabR w' base rb f tb A c n l :=
  ⟨k.obj h.blk (hF _ (.inl rfl)), h.f0, h.tab.keepsB k (fun i hi => hF i (.inr hi))⟩
theorem TabR.kept (h : TabR w base rb f tb A c n l) (k : Keeps NoB w w') : TabR w' base rb f tb A c n l := h.keeps k (fun _ _ f => f)
end
/-- What the document's opening answers. -/
def ROpenP (w0 w : World) (T : Nat → Prop) (b rb : Nat) (s : FSt) (R : Int × FSt × Int × List (List UInt8)) (e : Ending) (w' : World) : Prop :=
  Keeps (offT w0 T) w w' ∧ ((R.1 ≠ 0 ∧ e = .returned (.tuple #[.pointer none, .int .i64 R.1]) ∧ HalfT w0 T b rb s R.2.1 w') ∨
    (R.1 = 0 ∧ ∃ f tb A c, e = .returned (.tuple #[.pointer (some ⟨f, 0, none⟩), .int .i64 0]) ∧ HalfT w0 (fun k => T k ∨ tabRB f tb A c R.2.2.2 k) b rb s R.2.1 w' ∧ TabR w' w0.heap.size rb f tb A c R.2.2.1 R.2.2.2))
theorem rtab_box {w0 w : World} {T : Nat → Prop} {b rb tb : Nat} {A : Option Addr} {c : Nat} {s t : FSt} {l : List (List UInt8)} (n : Int) (h : HalfT w0 (fun k => T k ∨ rowRB tb A c l k) b rb s t w) (ht : IsR w w0.heap.size tb A c l) :
    HalfT w0 (fun k => T k ∨ tabRB w.heap.size tb A c l k) b rb s t (w.alloc (.cells #[.pointer (some ⟨tb, 0, none⟩), .pointer (some ⟨rb, 0, none⟩), .int .i64 n] 48)) ∧
    TabR (w.alloc (.cells #[.pointer (some ⟨tb, 0, none⟩), .pointer (some ⟨rb, 0, none⟩), .int .i64 n] 48)) w0.heap.size rb w.heap.size tb A c n l := by
  have hk : Keeps NoB w (w.alloc (.cells #[.pointer (some ⟨tb, 0, none⟩), .pointer (some ⟨rb, 0, none⟩), .int .i64 n] 48)) := (Keeps.refl NoB w).alloc _
  have hs : (w.alloc (.cells #[.pointer (some ⟨tb, 0, none⟩), .pointer (some ⟨rb, 0, none⟩), .int .i64 n] 48)).heap.size = w.heap.size + 1 := by simp
  refine ⟨h.other hk (fun _ f => f.elim) (fun i hi => ?_), ⟨heap_alloc_new w _, h.keeps.size, ht.kept hk⟩⟩
  rw [hs]
  rcases hi with hi | rfl | hi
  · exact ⟨.inl (.inl hi), by have := h.lt (.inl hi); omega⟩
  · exact ⟨.inr (Nat.le_refl _), by omega⟩
  · exact ⟨.inl (.inr hi), by have := h.lt (.inr hi); omega⟩
theorem rload_no {w w' : World} {p : List UInt8} {e : Ending} (hl : loadL p = none) (h : RLoadPost w p e w') : e = .returned (.tuple #[.pointer none, .int .i64 0, .int .i64 51]) ∧ Keeps NoB w w' := by
  obtain ⟨hk, ⟨_, he⟩ | ⟨l, b, A, c, h1, _⟩⟩ := h
  · exact ⟨he, hk⟩
  · rw [hl] at h1; cases h1
theorem rload_yes {w w' : World} {p : List UInt8} {e : Ending} {l : List (List UInt8)} (hl : loadL p = some l) (h : RLoadPost w p e w') : ∃ tb A c, e = .returned (.tuple #[.pointer (some ⟨tb, 0, none⟩), .int .i64 ((framesL p).2.1 : Nat), .int .i64 0]) ∧ IsR w' w.heap.size tb A c l ∧ Keeps NoB w w' := by
  obtain ⟨hk, ⟨h1, _⟩ | ⟨l', b, A, c, h1, he, ht⟩⟩ := h
  · rw [hl] at h1; cases h1
  · rw [hl] at h1
    cases h1
    exact ⟨b, A, c, he, ht, hk⟩
theorem rtab_more {w0 w w' : World} {T : Nat → Prop} {b rb tb : Nat} {A : Option Addr} {c : Nat} {s t : FSt} {l : List (List UInt8)} (h : HalfT w0 T b rb s t w) (k : Keeps NoB w w') (ht : IsR w' w.heap.size tb A c l) :
    HalfT w0 (fun i => T i ∨ rowRB tb A c l i) b rb s t w' := h.other k (fun _ f => f.elim) (fun i hi => by
  rcases hi with hi | hi
  · exact ⟨.inl hi, by have := h.lt hi; have := k.size; omega⟩
  · exact ⟨.inr (ht.from i hi), ht.lt i hi⟩)
set_option maxHeartbeats 4000000 in
set_option maxRecDepth 100000 in
theorem ropen5_any {w0 w : World} {T : Nat → Prop} {b rb N : Nat} {s t : FSt} (h : HalfT w0 T b rb s t w) (inv : Inv N t) (hN : N ≤ 800000000) (S : ByteArray) (hS : S.size ≤ 9223372036854775807) :
    Calls Tryz.prog 18 #[.pointer (some ⟨rb, 0, none⟩), .string S] w (ROpenP w0 w T b rb s (t.openT S.data.toList)) := by
  have H := Sd.mk h
  have HO := Sd.mk (xr_open h inv S hS)
  have HI := Sd.mk inv
  obtain ⟨R, hR⟩ : ∃ R, R = t.openT S.data.toList := ⟨_, rfl⟩
  rw [← hR]
  unfold FSt.openT at hR
  have hcr : t.createT S.data.toList = t.createT S.data.toList := rfl
  have HCR := Sd.mk (fun (w1 : World) (h1 : HalfT w0 T b rb s t w1) => xr_create h1 HI.o (by omega) S hS)
  have I1 := Sd.mk (inv.create S.data.toList)
  unfold FSt.createT at hR
  obtain ⟨Q, hQ⟩ : ∃ Q, Q = t.create S.data.toList := ⟨_, rfl⟩
  rw [← hQ] at HCR I1 hR
  obtain ⟨n, e0, hne⟩ : ∃ n e0, t.opened S.data.toList = (n, e0) := ⟨_, _, rfl⟩
  rw [hne] at HO hR
  dsimp only at HO hR
  clear h inv hne hQ hcr
  by_cases h7 : e0 = 7
  · subst h7
    rw [if_pos rfl] at hR
    by_cases hq : Q.2.1 = 0
    case neg =>
      rw [if_pos hq] at hR
      have hb1 : (Q.2.1 != 0) = true := by simpa using hq
      have HF : Sd (R = (Q.2.1, Q.2.2, 0, [[]]) ∧ Q.2.1 ≠ 0) := ⟨hR, hq⟩
      clear hR hq
      go_enter Tryz.func18, Tryz.ntmps18
      go_wp2_with (first
        | (go_at_call 47; refine HO.o.mono ?_; rintro e w1 ⟨rfl, k1⟩; have K1 := Sd.mk k1; have H1 := Sd.mk (H.o.kept k1); clear k1)
        | (go_at_call 48; refine (HCR.o _ H1.o).mono ?_; rintro e w2 ⟨rfl, h2, k2⟩; have H2 := Sd.mk h2; have K2 : Sd (Keeps (offT w0 T) w w2) := ⟨(K1.o.mono (fun _ _ f => f.elim)).trans k2 (fun _ _ f => f) (fun _ _ f => f)⟩; clear h2 k2))
      go_ret2
      obtain ⟨q1, q2⟩ := HF.o
      subst q1
      exact ⟨K2.o, .inl ⟨q2, rfl, H2.o⟩⟩
    rw [if_neg (fun e => e hq)] at hR
    have hb1 : (Q.2.1 != 0) = false := by simpa using hq
    have HSD := Sd.mk (fun (w2 : World) (h2 : HalfT w0 T b rb s Q.2.2 w2) => xr_syncdir h2 I1.o (by omega))
    obtain ⟨D, hD⟩ : ∃ D, D = Q.2.2.syncDir := ⟨_, rfl⟩
    rw [← hD] at HSD hR
    clear hD hq
    by_cases hd : D.1 = 0
    case neg =>
      rw [if_pos hd] at hR
      have hb2 : (D.1 != 0) = true := by simpa using hd
      have HF : Sd (R = (D.1, D.2, 0, [[]]) ∧ D.1 ≠ 0) := ⟨hR, hd⟩
      clear hR hd
      go_enter Tryz.func18, Tryz.ntmps18
      go_wp2_with (first
        | (go_at_call 47; refine HO.o.mono ?_; rintro e w1 ⟨rfl, k1⟩; have K1 := Sd.mk k1; have H1 := Sd.mk (H.o.kept k1); clear k1)
        | (go_at_call 48; refine (HCR.o _ H1.o).mono ?_; rintro e w2 ⟨rfl, h2, k2⟩; have H2 := Sd.mk h2; have K2 : Sd (Keeps (offT w0 T) w w2) := ⟨(K1.o.mono (fun _ _ f => f.elim)).trans k2 (fun _ _ f => f) (fun _ _ f => f)⟩; clear h2 k2)
        | (go_at_call 49; refine (HSD.o _ H2.o).mono ?_; rintro e w3 ⟨rfl, h3, k3⟩; have H3 := Sd.mk h3; have K3 := Sd.mk (K2.o.trans k3 (fun _ _ f => f) (fun _ _ f => f)); clear h3 k3))
      go_ret2
      obtain ⟨q1, q2⟩ := HF.o
      subst q1
      exact ⟨K3.o, .inl ⟨q2, rfl, H3.o⟩⟩
    rw [if_neg (fun e => e hd)] at hR
    have hb2 : (D.1 != 0) = false := by simpa using hd
    have HF : Sd (R = (0, D.2, Q.1, [[]])) := ⟨hR⟩
    clear hR hd
    go_enter Tryz.func18, Tryz.ntmps18
    go_wp2_with (first
      | (go_at_call 47; refine HO.o.mono ?_; rintro e w1 ⟨rfl, k1⟩; have K1 := Sd.mk k1; have H1 := Sd.mk (H.o.kept k1); clear k1)
      | (go_at_call 48; refine (HCR.o _ H1.o).mono ?_; rintro e w2 ⟨rfl, h2, k2⟩; have H2 := Sd.mk h2; have K2 : Sd (Keeps (offT w0 T) w w2) := ⟨(K1.o.mono (fun _ _ f => f.elim)).trans k2 (fun _ _ f => f) (fun _ _ f => f)⟩; clear h2 k2)
      | (go_at_call 49; refine (HSD.o _ H2.o).mono ?_; rintro e w3 ⟨rfl, h3, k3⟩; have H3 := Sd.mk h3; have K3 := Sd.mk (K2.o.trans k3 (fun _ _ f => f) (fun _ _ f => f)); clear h3 k3)
      | (go_at_call 50; refine (trnew_any _).mono ?_; rintro e w4 ⟨tb, A, c, rfl, t4, k4⟩; have T4 := Sd.mk (t4.less H3.o.keeps.size); have H4 := Sd.mk (rtab_more (l := [[]]) H3.o k4 t4); have K4 := Sd.mk (K3.o.then k4); clear t4 k4))
    go_ret2
    obtain ⟨h5, t5⟩ := rtab_box Q.1 H4.o T4.o
    obtain ⟨rfl⟩ := HF
    exact ⟨K4.o.alloc _, .inr ⟨rfl, _, tb, A, c, rfl, h5, t5⟩⟩
  rw [if_neg h7] at hR
  have hb7 : (e0 == 7) = false := by simpa using h7
  clear HCR I1
  by_cases h0 : e0 = 0
  case neg =>
    rw [if_pos h0] at hR
    have HF : Sd (R = (e0, t, 0, []) ∧ e0 ≠ 0) := ⟨hR, h0⟩
    have hb1 : (e0 != 0) = true := by simpa using h0
    clear hR h0 h7
    go_enter Tryz.func18, Tryz.ntmps18
    go_wp2_with (first
      | (go_at_call 47; refine HO.o.mono ?_; rintro e w1 ⟨rfl, k1⟩; have K1 := Sd.mk k1; have H1 := Sd.mk (H.o.kept k1); clear k1))
    go_ret2
    obtain ⟨e1, e2⟩ := HF.o
    subst e1
    exact ⟨K1.o.mono (fun _ _ f => f.elim), .inl ⟨e2, rfl, H1.o⟩⟩
  subst h0
  rw [if_neg (fun e => e rfl)] at hR
  clear h7 hb7
  unfold FSt.loadT at hR
  have HSZ := Sd.mk (fun (w1 : World) (h1 : HalfT w0 T b rb s t w1) => xr_size h1 HI.o (by omega) n)
  have hzb := size_small HI.o n
  have HRDG := Sd.mk (fun (w1 : World) (h1 : HalfT w0 T b rb s t w1) (m : Int) (hm : Is64 m) => xr_read h1 HI.o (by omega) n 0 m ⟨by decide, by decide⟩ hm)
  obtain ⟨z, e2, hze⟩ : ∃ z e2, t.size n = (z, e2) := ⟨_, _, rfl⟩
  rw [hze] at HSZ hR hzb
  dsimp only at HSZ hR hzb
  clear hze
  by_cases hz : e2 = 0
  case neg =>
    rw [if_pos hz] at hR
    have HF : Sd (R = (e2, t, 0, []) ∧ e2 ≠ 0) := ⟨hR, hz⟩
    have hb1 : (e2 != 0) = true := by simpa using hz
    clear hR hz
    go_enter Tryz.func18, Tryz.ntmps18
    go_wp2_with (first
      | (go_at_call 47; refine HO.o.mono ?_; rintro e w1 ⟨rfl, k1⟩; have K1 := Sd.mk k1; have H1 := Sd.mk (H.o.kept k1); clear k1)
      | (go_at_call 51; refine (HSZ.o _ H1.o).mono ?_; rintro e w2 ⟨rfl, k2⟩; have K2 := Sd.mk (K1.o.then k2); have H2 := Sd.mk (H1.o.kept k2); clear k2))
    go_ret2
    obtain ⟨q1, q2⟩ := HF.o
    subst q1
    exact ⟨K2.o.mono (fun _ _ f => f.elim), .inl ⟨q2, rfl, H2.o⟩⟩
  subst hz
  rw [if_neg (fun e => e rfl)] at hR
  have HRD := Sd.mk (fun (w1 : World) (h1 : HalfT w0 T b rb s t w1) => HRDG.o w1 h1 z ⟨by omega, by omega⟩)
  have hpl := read_small HI.o n 0 z
  obtain ⟨p, e3, hpe⟩ : ∃ p e3, t.read n 0 z = (p, e3) := ⟨_, _, rfl⟩
  rw [hpe] at HRD hR hpl
  dsimp only at HRD hR hpl
  clear hpe HRDG
  by_cases hp : e3 = 0
  case neg =>
    rw [if_pos hp] at hR
    have HF : Sd (R = (e3, t, 0, []) ∧ e3 ≠ 0) := ⟨hR, hp⟩
    have hb1 : (e3 != 0) = true := by simpa using hp
    clear hR hp
    go_enter Tryz.func18, Tryz.ntmps18
    go_wp2_with (first
      | (go_at_call 47; refine HO.o.mono ?_; rintro e w1 ⟨rfl, k1⟩; have K1 := Sd.mk k1; have H1 := Sd.mk (H.o.kept k1); clear k1)
      | (go_at_call 51; refine (HSZ.o _ H1.o).mono ?_; rintro e w2 ⟨rfl, k2⟩; have K2 := Sd.mk (K1.o.then k2); have H2 := Sd.mk (H1.o.kept k2); clear k2)
      | (go_at_call 52; refine (HRD.o _ H2.o).mono ?_; rintro e w3 ⟨rfl, k3⟩; have K3 := Sd.mk (K2.o.then k3); have H3 := Sd.mk (H2.o.kept k3); clear k3; obtain ⟨cv, w4, hcv, hru, hkv⟩ := cv_str w3 p (by omega); have K4 := Sd.mk (K3.o.then hkv); have H4 := Sd.mk (H3.o.kept hkv); have HL4 := Sd.mk (trload_any w4 (some ⟨w3.heap.size, 0, none⟩) cv p hru.1 hpl); clear hru hkv))
    go_ret2
    obtain ⟨q1, q2⟩ := HF.o
    subst q1
    exact ⟨K3.o.mono (fun _ _ f => f.elim), .inl ⟨q2, rfl, H3.o⟩⟩
  subst hp
  rw [if_neg (fun e => e rfl)] at hR
  cases hl : loadL p with
  | none =>
    rw [hl] at hR
    have hl0 := Sd.mk hl
    have HF : Sd (R = (51, t, 0, [])) := ⟨hR⟩
    clear hR hl
    go_enter Tryz.func18, Tryz.ntmps18
    go_wp2_with (first
      | (go_at_call 47; refine HO.o.mono ?_; rintro e w1 ⟨rfl, k1⟩; have K1 := Sd.mk k1; have H1 := Sd.mk (H.o.kept k1); clear k1)
      | (go_at_call 51; refine (HSZ.o _ H1.o).mono ?_; rintro e w2 ⟨rfl, k2⟩; have K2 := Sd.mk (K1.o.then k2); have H2 := Sd.mk (H1.o.kept k2); clear k2)
      | (go_at_call 52; refine (HRD.o _ H2.o).mono ?_; rintro e w3 ⟨rfl, k3⟩; have K3 := Sd.mk (K2.o.then k3); have H3 := Sd.mk (H2.o.kept k3); clear k3; obtain ⟨cv, w4, hcv, hru, hkv⟩ := cv_str w3 p (by omega); have K4 := Sd.mk (K3.o.then hkv); have H4 := Sd.mk (H3.o.kept hkv); have HL4 := Sd.mk (trload_any w4 (some ⟨w3.heap.size, 0, none⟩) cv p hru.1 hpl); clear hru hkv)
      | (go_at_call 53; refine (HL4.o.mono fun e w' hp => rload_no hl0.o hp).mono ?_; rintro e w5 ⟨rfl, k5⟩; have K5 := Sd.mk (K4.o.then k5); have H5 := Sd.mk (H4.o.kept k5); clear k5))
    go_ret2
    obtain ⟨rfl⟩ := HF
    exact ⟨K5.o.mono (fun _ _ f => f.elim), .inl ⟨show (51 : Int) ≠ 0 by decide, rfl, H5.o⟩⟩
  | some l =>
  rw [hl] at hR
  have hl0 := Sd.mk hl
  clear hl
  obtain ⟨k, hkk⟩ : ∃ k, k = (framesL p).2.1 := ⟨_, rfl⟩
  dsimp only at hR
  rw [← hkk] at hR
  unfold FSt.cutT at hR
  have HKK := Sd.mk hkk
  clear hkk
  by_cases hkz : (k : Int) < z
  case neg =>
    rw [if_neg hkz] at hR
    have HF : Sd (R = (0, t, n, l)) := ⟨hR⟩
    clear hR
    go_enter Tryz.func18, Tryz.ntmps18
    go_wp2_with (first
      | (go_at_call 47; refine HO.o.mono ?_; rintro e w1 ⟨rfl, k1⟩; have K1 := Sd.mk k1; have H1 := Sd.mk (H.o.kept k1); clear k1)
      | (go_at_call 51; refine (HSZ.o _ H1.o).mono ?_; rintro e w2 ⟨rfl, k2⟩; have K2 := Sd.mk (K1.o.then k2); have H2 := Sd.mk (H1.o.kept k2); clear k2)
      | (go_at_call 52; refine (HRD.o _ H2.o).mono ?_; rintro e w3 ⟨rfl, k3⟩; have K3 := Sd.mk (K2.o.then k3); have H3 := Sd.mk (H2.o.kept k3); clear k3; obtain ⟨cv, w4, hcv, hru, hkv⟩ := cv_str w3 p (by omega); have K4 := Sd.mk (K3.o.then hkv); have H4 := Sd.mk (H3.o.kept hkv); have HL4 := Sd.mk (trload_any w4 (some ⟨w3.heap.size, 0, none⟩) cv p hru.1 hpl); clear hru hkv)
      | (go_at_call 53; refine (HL4.o.mono fun e w' hp => rload_yes hl0.o hp).mono ?_; rintro e w5 ⟨tb, A, c, rfl, t5, k5⟩; have T5 := Sd.mk (t5.less H4.o.keeps.size); have H5 := Sd.mk (rtab_more H4.o k5 t5); have K5 := Sd.mk (K4.o.then k5); rw [← HKK.o]; clear t5 k5))
    go_ret2
    obtain ⟨h6, t6⟩ := rtab_box n H5.o T5.o
    obtain ⟨rfl⟩ := HF
    exact ⟨(K5.o.mono (fun _ _ f => f.elim)).alloc _, .inr ⟨rfl, _, tb, A, c, rfl, h6, t6⟩⟩
  rw [if_pos hkz] at hR
  have HCT := Sd.mk (fun (w4 : World) (T1 : Nat → Prop) (h4 : HalfT w0 T1 b rb s t w4) => xr_cut h4 HI.o (by omega) n k ⟨by omega, by omega⟩)
  have I5 := Sd.mk (HI.o.cutAt n k)
  obtain ⟨C, hC⟩ : ∃ C, C = t.cutAt n k := ⟨_, rfl⟩
  rw [← hC] at HCT I5 hR
  clear hC
  by_cases hc : C.1 = 0
  case neg =>
    rw [if_pos hc] at hR
    have hb1 : (C.1 == 0) = false := by simpa using hc
    have hb2 : (C.1 != 0) = true := by simpa using hc
    have HF : Sd (R = (C.1, C.2, n, l) ∧ C.1 ≠ 0) := ⟨hR, hc⟩
    clear hR hc
    go_enter Tryz.func18, Tryz.ntmps18
    go_wp2_with (first
      | (go_at_call 47; refine HO.o.mono ?_; rintro e w1 ⟨rfl, k1⟩; have K1 := Sd.mk k1; have H1 := Sd.mk (H.o.kept k1); clear k1)
      | (go_at_call 51; refine (HSZ.o _ H1.o).mono ?_; rintro e w2 ⟨rfl, k2⟩; have K2 := Sd.mk (K1.o.then k2); have H2 := Sd.mk (H1.o.kept k2); clear k2)
      | (go_at_call 52; refine (HRD.o _ H2.o).mono ?_; rintro e w3 ⟨rfl, k3⟩; have K3 := Sd.mk (K2.o.then k3); have H3 := Sd.mk (H2.o.kept k3); clear k3; obtain ⟨cv, w4, hcv, hru, hkv⟩ := cv_str w3 p (by omega); have K4 := Sd.mk (K3.o.then hkv); have H4 := Sd.mk (H3.o.kept hkv); have HL4 := Sd.mk (trload_any w4 (some ⟨w3.heap.size, 0, none⟩) cv p hru.1 hpl); clear hru hkv)
      | (go_at_call 53; refine (HL4.o.mono fun e w' hp => rload_yes hl0.o hp).mono ?_; rintro e w5 ⟨tb, A, c, rfl, t5, k5⟩; have T5 := Sd.mk (t5.less H4.o.keeps.size); have H5 := Sd.mk (rtab_more H4.o k5 t5); have K5 := Sd.mk (K4.o.then k5); rw [← HKK.o]; clear t5 k5)
      | (go_at_call 54; refine (HCT.o _ _ H5.o).mono ?_; rintro e w6 ⟨rfl, h6, k6⟩; have H6 := Sd.mk h6; have T6 := Sd.mk (T5.o.keepsB k6 (fun i hi f => f.1 (.inr hi))); have K6 := Sd.mk (k6.mono (fun i _ f => offT.or f)); clear h6 k6))
    go_ret2
    obtain ⟨q1, q2⟩ := HF.o
    subst q1
    exact ⟨(K5.o.mono (fun _ _ f => f.elim)).trans K6.o (fun _ _ f => f) (fun _ _ f => f), .inl ⟨q2, rfl, H6.o.less (fun i hi => .inl hi)⟩⟩
  rw [if_neg (fun e => e hc)] at hR
  have hb1 : (C.1 == 0) = true := by simpa using hc
  have HSY := Sd.mk (fun (w5 : World) (T1 : Nat → Prop) (h5 : HalfT w0 T1 b rb s C.2 w5) => xr_sync h5 I5.o (by omega) n)
  obtain ⟨Y, hY⟩ : ∃ Y, Y = C.2.sync n := ⟨_, rfl⟩
  rw [← hY] at HSY hR
  clear hY hc
  by_cases hy : Y.1 = 0
  case neg =>
    have hb3 : (Y.1 != 0) = true := by simpa using hy
    have HF : Sd (R = (Y.1, Y.2, n, l) ∧ Y.1 ≠ 0) := ⟨hR, hy⟩
    clear hR hy
    go_enter Tryz.func18, Tryz.ntmps18
    go_wp2_with (first
      | (go_at_call 47; refine HO.o.mono ?_; rintro e w1 ⟨rfl, k1⟩; have K1 := Sd.mk k1; have H1 := Sd.mk (H.o.kept k1); clear k1)
      | (go_at_call 51; refine (HSZ.o _ H1.o).mono ?_; rintro e w2 ⟨rfl, k2⟩; have K2 := Sd.mk (K1.o.then k2); have H2 := Sd.mk (H1.o.kept k2); clear k2)
      | (go_at_call 52; refine (HRD.o _ H2.o).mono ?_; rintro e w3 ⟨rfl, k3⟩; have K3 := Sd.mk (K2.o.then k3); have H3 := Sd.mk (H2.o.kept k3); clear k3; obtain ⟨cv, w4, hcv, hru, hkv⟩ := cv_str w3 p (by omega); have K4 := Sd.mk (K3.o.then hkv); have H4 := Sd.mk (H3.o.kept hkv); have HL4 := Sd.mk (trload_any w4 (some ⟨w3.heap.size, 0, none⟩) cv p hru.1 hpl); clear hru hkv)
      | (go_at_call 53; refine (HL4.o.mono fun e w' hp => rload_yes hl0.o hp).mono ?_; rintro e w5 ⟨tb, A, c, rfl, t5, k5⟩; have T5 := Sd.mk (t5.less H4.o.keeps.size); have H5 := Sd.mk (rtab_more H4.o k5 t5); have K5 := Sd.mk (K4.o.then k5); rw [← HKK.o]; clear t5 k5)
      | (go_at_call 54; refine (HCT.o _ _ H5.o).mono ?_; rintro e w6 ⟨rfl, h6, k6⟩; have H6 := Sd.mk h6; have T6 := Sd.mk (T5.o.keepsB k6 (fun i hi f => f.1 (.inr hi))); have K6 := Sd.mk (k6.mono (fun i _ f => offT.or f)); clear h6 k6)
      | (go_at_call 23; refine (HSY.o _ _ H6.o).mono ?_; rintro e w7 ⟨rfl, h7, k7⟩; have H7 := Sd.mk h7; have T7 := Sd.mk (T6.o.keepsB k7 (fun i hi f => f.1 (.inr hi))); have K7 := Sd.mk (K6.o.trans (k7.mono (fun i _ f => offT.or f)) (fun _ _ f => f) (fun _ _ f => f)); clear h7 k7))
    go_ret2
    obtain ⟨q1, q2⟩ := HF.o
    subst q1
    exact ⟨(K5.o.mono (fun _ _ f => f.elim)).trans K7.o (fun _ _ f => f) (fun _ _ f => f), .inl ⟨q2, rfl, H7.o.less (fun i hi => .inl hi)⟩⟩
  have hb3 : (Y.1 != 0) = false := by simpa using hy
  have HF : Sd (R = (0, Y.2, n, l)) := ⟨by rw [hR, hy]⟩
  clear hR hy
  go_enter Tryz.func18, Tryz.ntmps18
  go_wp2_with (first
    | (go_at_call 47; refine HO.o.mono ?_; rintro e w1 ⟨rfl, k1⟩; have K1 := Sd.mk k1; have H1 := Sd.mk (H.o.kept k1); clear k1)
    | (go_at_call 51; refine (HSZ.o _ H1.o).mono ?_; rintro e w2 ⟨rfl, k2⟩; have K2 := Sd.mk (K1.o.then k2); have H2 := Sd.mk (H1.o.kept k2); clear k2)
    | (go_at_call 52; refine (HRD.o _ H2.o).mono ?_; rintro e w3 ⟨rfl, k3⟩; have K3 := Sd.mk (K2.o.then k3); have H3 := Sd.mk (H2.o.kept k3); clear k3; obtain ⟨cv, w4, hcv, hru, hkv⟩ := cv_str w3 p (by omega); have K4 := Sd.mk (K3.o.then hkv); have H4 := Sd.mk (H3.o.kept hkv); have HL4 := Sd.mk (trload_any w4 (some ⟨w3.heap.size, 0, none⟩) cv p hru.1 hpl); clear hru hkv)
    | (go_at_call 53; refine (HL4.o.mono fun e w' hp => rload_yes hl0.o hp).mono ?_; rintro e w5 ⟨tb, A, c, rfl, t5, k5⟩; have T5 := Sd.mk (t5.less H4.o.keeps.size); have H5 := Sd.mk (rtab_more H4.o k5 t5); have K5 := Sd.mk (K4.o.then k5); rw [← HKK.o]; clear t5 k5)
    | (go_at_call 54; refine (HCT.o _ _ H5.o).mono ?_; rintro e w6 ⟨rfl, h6, k6⟩; have H6 := Sd.mk h6; have T6 := Sd.mk (T5.o.keepsB k6 (fun i hi f => f.1 (.inr hi))); have K6 := Sd.mk (k6.mono (fun i _ f => offT.or f)); clear h6 k6)
    | (go_at_call 23; refine (HSY.o _ _ H6.o).mono ?_; rintro e w7 ⟨rfl, h7, k7⟩; have H7 := Sd.mk h7; have T7 := Sd.mk (T6.o.keepsB k7 (fun i hi f => f.1 (.inr hi))); have K7 := Sd.mk (K6.o.trans (k7.mono (fun i _ f => offT.or f)) (fun _ _ f => f) (fun _ _ f => f)); clear h7 k7))
  go_ret2
  obtain ⟨h8, t8⟩ := rtab_box n H7.o T7.o
  obtain ⟨rfl⟩ := HF
  exact ⟨((K5.o.mono (fun _ _ f => f.elim)).trans K7.o (fun _ _ f => f) (fun _ _ f => f)).alloc _, .inr ⟨rfl, _, tb, A, c, rfl, h8, t8⟩⟩
end Go.Proofs.YtdjamijbhaplgaaGreat
