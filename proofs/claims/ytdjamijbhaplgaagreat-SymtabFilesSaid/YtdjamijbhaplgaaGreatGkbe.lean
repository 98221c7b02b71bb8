/- symtab: a table that stands in a file: create, Open. -/
import Derived.Test.YtdjamijbhaplgaaGreatGkbc
import Derived.Test.YtdjamijbhaplgaaGreatGkay
import Derived.Test.YtdjamijbhaplgaaGreatGkbd
import Derived.Test.YtdjamijbhaplgaaGreatGkba
namespace Go.Proofs.YtdjamijbhaplgaaGreat
open Go.RowKit Go.Maps Go.Lib

theorem IsT.less {w : World} {base base' b mb : Nat} {A : Option Addr} {c : Nat} {l : List (List UInt8)} (h : IsT w base b mb A c l) (hb : base' ≤ base) : IsT w base' b mb A c l :=
  ⟨h.blk, h.own, h.map, h.ne, h.sz, Nat.le_trans hb h.b0, Nat.le_trans hb h.m0, fun k hk => Nat.le_trans hb (h.a0 k hk)⟩
/-- A File of the program at f: its table, its file system, its number. -/
structure TabA (w : World) (base b f tb mb : Nat) (A : Option Addr) (c : Nat) (n : Int) (l : List (List UInt8)) : Prop where
  blk : w.heap[f]? = some (.cells #[.pointer (some ⟨tb, 0, none⟩), .pointer (some ⟨b, 0, none⟩), .int .i64 n] 64 (0, 0))
  f0 : base ≤ f
  tab : IsT w base tb mb A c l
def tabAB (f tb mb : Nat) (A : Option Addr) (c : Nat) (l : List (List UInt8)) : Nat → Prop := fun k => k = f ∨ TabB tb mb (.slice A l.length c) k
theorem TabA.lt {w : World} {base b f tb mb : Nat} {A : Option Addr} {c : Nat} {n : Int} {l : List (List UInt8)} (h : TabA w base b f tb mb A c n l) : ∀ k, tabAB f tb mb A c l k → k < w.heap.size := fun k hk => by
  rcases hk with rfl | hk
  · exact (Array.getElem?_eq_some_iff.1 h.blk).1
  · exact h.tab.lt k hk
theorem TabA.ge {w : World} {base b f tb mb : Nat} {A : Option Addr} {c : Nat} {n : Int} {l : List (List UInt8)} (h : TabA w base b f tb mb A c n l) : ∀ k, tabAB f tb mb A c l k → base ≤ k := fun k hk => by
  rcases hk with rfl | hk
  · exact h.f0
  · exact h.tab.from k hk
theorem TabA.keeps {F : Nat → Prop} {w w' : World} {base b f tb mb : Nat} {A : Option Addr} {c : Nat} {n : Int} {l : List (List UInt8)} (h : TabA w base b f tb mb A c n l) (k : Keeps F w w') (hF : ∀ i, tabAB f tb mb A c l i → ¬ F i) : TabA w' base b f tb mb A c n l :=
  ⟨k.obj h.blk (hF _ (.inl rfl)), h.f0, h.tab.keepsB k (fun i hi => hF i (.inr hi))⟩
theorem TabA.kept {w w' : World} {base b f tb mb : Nat} {A : Option Addr} {c : Nat} {n : Int} {l : List (List UInt8)} (h : TabA w base b f tb mb A c n l) (k : Keeps NoB w w') : TabA w' base b f tb mb A c n l := h.keeps k (fun _ _ f => f)
/-- What opening answers. -/
def OpenP (w0 w : World) (T : Nat → Prop) (b rb : Nat) (t : FSt) (R : Int × FSt × Int × List (List UInt8)) (e : Ending) (w' : World) : Prop :=
  Keeps (offT w0 T) w w' ∧ ((R.1 ≠ 0 ∧ e = .returned (.tuple #[.pointer none, .int .i64 R.1]) ∧ HalfT w0 T b rb R.2.1 t w') ∨
    (R.1 = 0 ∧ ∃ f tb mb A c, e = .returned (.tuple #[.pointer (some ⟨f, 0, none⟩), .int .i64 0]) ∧ HalfT w0 (fun k => T k ∨ tabAB f tb mb A c R.2.2.2 k) b rb R.2.1 t w' ∧ TabA w' w0.heap.size b f tb mb A c R.2.2.1 R.2.2.2))
theorem offT.or {w0 : World} {T U : Nat → Prop} {i : Nat} (h : offT w0 (fun k => T k ∨ U k) i) : offT w0 T i := ⟨fun e => h.1 (.inl e), h.2⟩
/-- The File is laid out. -/
theorem tab_box {w0 w : World} {T : Nat → Prop} {b rb tb mb : Nat} {A : Option Addr} {c : Nat} {s t : FSt} {l : List (List UInt8)} (n : Int) (h : HalfT w0 (fun k => T k ∨ TabB tb mb (.slice A l.length c) k) b rb s t w) (ht : IsT w w0.heap.size tb mb A c l) :
    HalfT w0 (fun k => T k ∨ tabAB w.heap.size tb mb A c l k) b rb s t (w.alloc (.cells #[.pointer (some ⟨tb, 0, none⟩), .pointer (some ⟨b, 0, none⟩), .int .i64 n] 64)) ∧
    TabA (w.alloc (.cells #[.pointer (some ⟨tb, 0, none⟩), .pointer (some ⟨b, 0, none⟩), .int .i64 n] 64)) w0.heap.size b w.heap.size tb mb A c n l := by
  have hk : Keeps NoB w (w.alloc (.cells #[.pointer (some ⟨tb, 0, none⟩), .pointer (some ⟨b, 0, none⟩), .int .i64 n] 64)) := (Keeps.refl NoB w).alloc _
  have hs : (w.alloc (.cells #[.pointer (some ⟨tb, 0, none⟩), .pointer (some ⟨b, 0, none⟩), .int .i64 n] 64)).heap.size = w.heap.size + 1 := by simp
  refine ⟨h.other hk (fun _ f => f.elim) (fun i hi => ?_), ⟨heap_alloc_new w _, h.keeps.size, ht.kept hk⟩⟩
  rw [hs]
  rcases hi with hi | rfl | hi
  · exact ⟨.inl (.inl hi), by have := h.lt (.inl hi); omega⟩
  · exact ⟨.inr (Nat.le_refl _), by omega⟩
  · exact ⟨.inl (.inr hi), by have := h.lt (.inr hi); omega⟩
set_option maxHeartbeats 4000000 in
set_option maxRecDepth 100000 in
theorem tcreate_any {w0 w : World} {T : Nat → Prop} {b rb N : Nat} {s t : FSt} (h : HalfT w0 T b rb s t w) (inv : Inv N s) (hN : N ≤ 800000000) (S : ByteArray) (hS : S.size ≤ 9223372036854775807) :
    Calls Tryz.prog 42 #[.pointer (some ⟨b, 0, none⟩), .string S] w (OpenP w0 w T b rb t ((s.createT S.data.toList).1, (s.createT S.data.toList).2.1, (s.createT S.data.toList).2.2, [[]])) := by
  have H := Sd.mk h
  have HC := Sd.mk (xa_create h inv (by omega) S hS)
  have I1 := Sd.mk (inv.create S.data.toList)
  obtain ⟨R, hR⟩ : ∃ R, R = s.createT S.data.toList := ⟨_, rfl⟩
  rw [← hR]
  unfold FSt.createT at hR
  obtain ⟨Q, hQ⟩ : ∃ Q, Q = s.create S.data.toList := ⟨_, rfl⟩
  rw [← hQ] at HC I1 hR
  clear h inv hQ
  by_cases he : Q.2.1 = 0
  case neg =>
    have hb1 : (Q.2.1 == 0) = false := by simpa using he
    have hb2 : (Q.2.1 != 0) = true := by simpa using he
    rw [if_pos he] at hR
    have HF : Sd (R.1 = Q.2.1 ∧ R.2.1 = Q.2.2 ∧ Q.2.1 ≠ 0) := ⟨by rw [hR]; exact ⟨rfl, rfl, he⟩⟩
    clear hR he
    go_enter Tryz.func42, Tryz.ntmps42
    go_wp2_with (go_at_call 84; refine HC.o.mono ?_; rintro e w1 ⟨rfl, h1, k1⟩; have H1 := Sd.mk h1; have K1 := Sd.mk k1; clear h1 k1)
    go_ret2
    obtain ⟨e1, e2, e3⟩ := HF.o
    exact ⟨K1.o, .inl ⟨by rw [e1]; exact e3, by rw [e1]; rfl, by rw [e2]; exact H1.o⟩⟩
  rw [if_neg (fun e => e he)] at hR
  have hb1 : (Q.2.1 == 0) = true := by simpa using he
  obtain ⟨D, hD⟩ : ∃ D, D = Q.2.2.syncDir := ⟨_, rfl⟩
  have HSD := Sd.mk (fun (w1 : World) (h1 : HalfT w0 T b rb Q.2.2 t w1) => xa_syncdir h1 I1.o (by omega))
  rw [← hD] at HSD hR
  clear hD
  by_cases hd : D.1 = 0
  case neg =>
    have hb2 : (D.1 != 0) = true := by simpa using hd
    rw [if_pos hd] at hR
    have HF : Sd (R.1 = D.1 ∧ R.2.1 = D.2 ∧ D.1 ≠ 0) := ⟨by rw [hR]; exact ⟨rfl, rfl, hd⟩⟩
    clear hR he hd
    go_enter Tryz.func42, Tryz.ntmps42
    go_wp2_with (first
      | (go_at_call 84; refine HC.o.mono ?_; rintro e w1 ⟨rfl, h1, k1⟩; have H1 := Sd.mk h1; have K1 := Sd.mk k1; clear h1 k1)
      | (go_at_call 85; refine (HSD.o _ H1.o).mono ?_; rintro e w2 ⟨rfl, h2, k2⟩; have H2 := Sd.mk h2; have K2 := Sd.mk (K1.o.trans k2 (fun _ _ f => f) (fun _ _ f => f)); clear h2 k2))
    go_ret2
    obtain ⟨e1, e2, e3⟩ := HF.o
    exact ⟨K2.o, .inl ⟨by rw [e1]; exact e3, by rw [e1]; rfl, by rw [e2]; exact H2.o⟩⟩
  have hb2 : (D.1 != 0) = false := by simpa using hd
  rw [if_neg (fun e => e hd)] at hR
  have HF : Sd (R = (0, D.2, Q.1)) := ⟨hR⟩
  clear hR he hd
  go_enter Tryz.func42, Tryz.ntmps42
  go_wp2_with (first
    | (go_at_call 84; refine HC.o.mono ?_; rintro e w1 ⟨rfl, h1, k1⟩; have H1 := Sd.mk h1; have K1 := Sd.mk k1; clear h1 k1)
    | (go_at_call 85; refine (HSD.o _ H1.o).mono ?_; rintro e w2 ⟨rfl, h2, k2⟩; have H2 := Sd.mk h2; have K2 := Sd.mk (K1.o.trans k2 (fun _ _ f => f) (fun _ _ f => f)); clear h2 k2)
    | (go_at_call 26; refine (tnew_any _).mono ?_; rintro e w3 ⟨tb, mb, A, c, rfl, h3, k3⟩; have H3 := Sd.mk h3; have K3 := Sd.mk k3; clear h3 k3))
  go_ret2
  have hT3 := H3.o.less H2.o.keeps.size
  have hH3 : HalfT w0 (fun k => T k ∨ TabB tb mb (.slice A ([[]] : List (List UInt8)).length c) k) b rb D.2 t w3 := H2.o.other K3.o (fun _ f => f.elim) (fun i hi => by
    rcases hi with hi | hi
    · exact ⟨.inl hi, by have := H2.o.lt hi; have := K3.o.size; omega⟩
    · exact ⟨.inr (H3.o.from i hi), H3.o.lt i hi⟩)
  obtain ⟨h4, t4⟩ := tab_box Q.1 hH3 hT3
  have hk4 : Keeps (offT w0 T) w (w3.alloc (.cells #[.pointer (some ⟨tb, 0, none⟩), .pointer (some ⟨b, 0, none⟩), .int .i64 Q.1] 64)) := (K2.o.then K3.o).alloc _
  refine ⟨hk4, .inr ⟨by rw [HF.o], w3.heap.size, tb, mb, A, c, rfl, ?_, ?_⟩⟩
  · rw [HF.o]; exact h4
  · rw [HF.o]; exact t4
end Go.Proofs.YtdjamijbhaplgaaGreat
namespace Go.Proofs.YtdjamijbhaplgaaGreat
open Go.RowKit Go.Maps Go.Lib

theorem HalfT.less {w0 w : World} {T T' : Nat → Prop} {b rb : Nat} {s t : FSt} (h : HalfT w0 T b rb s t w) (hT : ∀ i, T' i → T i) : HalfT w0 T' b rb s t w :=
  h.other (Keeps.refl NoB w) (fun _ f => f.elim) (fun i hi => ⟨.inl (hT i hi), h.lt (hT i hi)⟩)
theorem size_small {N : Nat} {s : FSt} (inv : Inv N s) (n : Int) : 0 ≤ (s.size n).1 ∧ (s.size n).1 ≤ 67108864 := by
  unfold FSt.size
  split
  · exact ⟨Int.le_refl 0, show (0 : Int) ≤ 67108864 by decide⟩
  · have := inv.files.small n.toNat
    exact ⟨Int.natCast_nonneg _, by show (((s.file n.toNat).data.length : Nat) : Int) ≤ 67108864; omega⟩
theorem read_small {N : Nat} {s : FSt} (inv : Inv N s) (n pos most : Int) : (s.read n pos most).1.length ≤ 67108864 := by
  unfold FSt.read
  split
  · exact Nat.zero_le _
  · split
    · exact Nat.zero_le _
    · have := inv.files.small n.toNat
      rw [List.length_take, List.length_drop]
      omega
theorem load_no {w w' : World} {p : List UInt8} {e : Ending} (hl : loadL p = none) (h : LoadPost w p e w') : e = .returned (.tuple #[.pointer none, .int .i64 0, .int .i64 51]) ∧ Keeps NoB w w' := by
  obtain ⟨hk, ⟨_, he⟩ | ⟨l, b, mb, A, c, h1, _⟩⟩ := h
  · exact ⟨he, hk⟩
  · rw [hl] at h1; cases h1
theorem load_yes {w w' : World} {p : List UInt8} {e : Ending} {l : List (List UInt8)} (hl : loadL p = some l) (h : LoadPost w p e w') : ∃ tb mb A c, e = .returned (.tuple #[.pointer (some ⟨tb, 0, none⟩), .int .i64 ((framesL p).2.1 : Nat), .int .i64 0]) ∧ IsT w' w.heap.size tb mb A c l ∧ Keeps NoB w w' := by
  obtain ⟨hk, ⟨h1, _⟩ | ⟨l', b, mb, A, c, h1, he, ht⟩⟩ := h
  · rw [hl] at h1; cases h1
  · rw [hl] at h1
    cases h1
    exact ⟨b, mb, A, c, he, ht, hk⟩
theorem tab_more {w0 w w' : World} {T : Nat → Prop} {b rb tb mb : Nat} {A : Option Addr} {c : Nat} {s t : FSt} {l : List (List UInt8)} (h : HalfT w0 T b rb s t w) (k : Keeps NoB w w') (ht : IsT w' w.heap.size tb mb A c l) :
    HalfT w0 (fun i => T i ∨ TabB tb mb (.slice A l.length c) i) b rb s t w' := h.other k (fun _ f => f.elim) (fun i hi => by
  rcases hi with hi | hi
  · exact ⟨.inl hi, by have := h.lt hi; have := k.size; omega⟩
  · exact ⟨.inr (ht.from i hi), ht.lt i hi⟩)
section
variable {w0 w w' : World} {T : Nat → Prop} {b rb : Nat} {t : FSt} {R : Int × FSt × Int × List (List UInt8)} {e : Ending}
theorem OpenP.no (hR : R.1 ≠ 0) (h : OpenP w0 w T b rb t R e w') : e = .returned (.tuple #[.pointer none, .int .i64 R.1]) ∧ HalfT w0 T b rb R.2.1 t w' ∧ Keeps (offT w0 T) w w' := by
  obtain ⟨hk, ⟨_, h2, h3⟩ | ⟨h1, _⟩⟩ := h
  · exact ⟨h2, h3, hk⟩
  · exact absurd h1 hR
theorem OpenP.yes (hR : R.1 = 0) (h : OpenP w0 w T b rb t R e w') : ∃ f tb mb A c, e = .returned (.tuple #[.pointer (some ⟨f, 0, none⟩), .int .i64 0]) ∧ HalfT w0 (fun k => T k ∨ tabAB f tb mb A c R.2.2.2 k) b rb R.2.1 t w' ∧ TabA w' w0.heap.size b f tb mb A c R.2.2.1 R.2.2.2 ∧ Keeps (offT w0 T) w w' := by
  obtain ⟨hk, ⟨h1, _⟩ | ⟨_, f, tb, mb, A, c, h2, h3, h4⟩⟩ := h
  · exact absurd hR h1
  · exact ⟨f, tb, mb, A, c, h2, h3, h4, hk⟩
end
set_option maxHeartbeats 4000000 in
set_option maxRecDepth 100000 in
theorem topen_any {w0 w : World} {T : Nat → Prop} {b rb N : Nat} {s t : FSt} (h : HalfT w0 T b rb s t w) (inv : Inv N s) (hN : N ≤ 800000000) (S : ByteArray) (hS : S.size ≤ 9223372036854775807) :
    Calls Tryz.prog 17 #[.pointer (some ⟨b, 0, none⟩), .string S] w (OpenP w0 w T b rb t (s.openT S.data.toList)) := by
  have H := Sd.mk h
  have HO := Sd.mk (xa_open h S hS)
  have HI := Sd.mk inv
  obtain ⟨R, hR⟩ : ∃ R, R = s.openT S.data.toList := ⟨_, rfl⟩
  rw [← hR]
  unfold FSt.openT at hR
  have HCR := Sd.mk (fun (w1 : World) (h1 : HalfT w0 T b rb s t w1) => tcreate_any h1 inv hN S hS)
  generalize s.createT S.data.toList = CT at *
  obtain ⟨n, e0, hne⟩ : ∃ n e0, s.opened S.data.toList = (n, e0) := ⟨_, _, rfl⟩
  rw [hne] at HO hR
  dsimp only at HO hR
  clear h inv hne
  by_cases h7 : e0 = 7
  · subst h7
    rw [if_pos rfl] at hR
    have HF : Sd (R = (CT.1, CT.2.1, CT.2.2, [[]])) := ⟨hR⟩
    clear hR
    by_cases hc : CT.1 = 0
    · have HCY := Sd.mk (fun w1 h1 => (HCR.o w1 h1).mono fun e w' hp => OpenP.yes hc hp)
      have HC0 := Sd.mk hc
      clear hc HCR
      go_enter Tryz.func17, Tryz.ntmps17
      go_wp2_with (first
        | (go_at_call 41; refine HO.o.mono ?_; rintro e w1 ⟨rfl, k1⟩; have K1 := Sd.mk k1; have H1 := Sd.mk (H.o.kept k1); clear k1)
        | (go_at_call 42; refine (HCY.o _ H1.o).mono ?_; rintro e w2 ⟨f, tb, mb, A, c, rfl, h2, t2, k2⟩; have HP := Sd.mk (And.intro h2 (And.intro t2 k2)); clear h2 t2 k2))
      go_ret2
      obtain ⟨h2, t2, k2⟩ := HP.o
      obtain ⟨rfl⟩ := HF
      exact ⟨(K1.o.mono (fun _ _ f => f.elim)).trans k2 (fun _ _ f => f) (fun _ _ f => f), .inr ⟨HC0.o, f, tb, mb, A, c, rfl, h2, t2⟩⟩
    · have HCN := Sd.mk (fun w1 h1 => (HCR.o w1 h1).mono fun e w' hp => OpenP.no hc hp)
      have HC0 := Sd.mk hc
      clear hc HCR
      go_enter Tryz.func17, Tryz.ntmps17
      go_wp2_with (first
        | (go_at_call 41; refine HO.o.mono ?_; rintro e w1 ⟨rfl, k1⟩; have K1 := Sd.mk k1; have H1 := Sd.mk (H.o.kept k1); clear k1)
        | (go_at_call 42; refine (HCN.o _ H1.o).mono ?_; rintro e w2 ⟨rfl, h2, k2⟩; have HP := Sd.mk (And.intro h2 k2); clear h2 k2))
      go_ret2
      obtain ⟨h2, k2⟩ := HP.o
      obtain ⟨rfl⟩ := HF
      exact ⟨(K1.o.mono (fun _ _ f => f.elim)).trans k2 (fun _ _ f => f) (fun _ _ f => f), .inl ⟨HC0.o, rfl, h2⟩⟩
  rw [if_neg h7] at hR
  clear HCR
  by_cases h0 : e0 = 0
  case neg =>
    rw [if_pos h0] at hR
    have HF : Sd (R = (e0, s, 0, []) ∧ e0 ≠ 0) := ⟨hR, h0⟩
    have hb1 : (e0 == 0) = false := by simpa using h0
    have hb2 : (e0 == 7) = false := by simpa using h7
    clear hR h0 h7
    go_enter Tryz.func17, Tryz.ntmps17
    go_wp2_with (go_at_call 41; refine HO.o.mono ?_; rintro e w1 ⟨rfl, k1⟩; have K1 := Sd.mk k1; have H1 := Sd.mk (H.o.kept k1); clear k1)
    go_ret2
    obtain ⟨e1, e2⟩ := HF.o
    subst e1
    exact ⟨K1.o.mono (fun _ _ f => f.elim), .inl ⟨e2, rfl, H1.o⟩⟩
  subst h0
  rw [if_neg (fun e => e rfl)] at hR
  clear h7
  unfold FSt.loadT at hR
  have HSZ := Sd.mk (fun (w1 : World) (h1 : HalfT w0 T b rb s t w1) => xa_size h1 HI.o (by omega) n)
  have hzb := size_small HI.o n
  have HRDG := Sd.mk (fun (w1 : World) (h1 : HalfT w0 T b rb s t w1) (m : Int) (hm : Is64 m) => xa_read h1 HI.o (by omega) n 0 m ⟨by decide, by decide⟩ hm)
  obtain ⟨z, e2, hze⟩ : ∃ z e2, s.size n = (z, e2) := ⟨_, _, rfl⟩
  rw [hze] at HSZ hR hzb
  dsimp only at HSZ hR hzb
  clear hze
  by_cases hz : e2 = 0
  case neg =>
    rw [if_pos hz] at hR
    have HF : Sd (R = (e2, s, 0, []) ∧ e2 ≠ 0) := ⟨hR, hz⟩
    have hb1 : (e2 != 0) = true := by simpa using hz
    clear hR hz
    go_enter Tryz.func17, Tryz.ntmps17
    go_wp2_with (first
      | (go_at_call 41; refine HO.o.mono ?_; rintro e w1 ⟨rfl, k1⟩; have K1 := Sd.mk k1; have H1 := Sd.mk (H.o.kept k1); clear k1)
      | (go_at_call 43; refine (HSZ.o _ H1.o).mono ?_; rintro e w2 ⟨rfl, k2⟩; have K2 := Sd.mk (K1.o.then k2); have H2 := Sd.mk (H1.o.kept k2); clear k2))
    go_ret2
    obtain ⟨q1, q2⟩ := HF.o
    subst q1
    exact ⟨K2.o.mono (fun _ _ f => f.elim), .inl ⟨q2, rfl, H2.o⟩⟩
  subst hz
  rw [if_neg (fun e => e rfl)] at hR
  have HRD := Sd.mk (fun (w1 : World) (h1 : HalfT w0 T b rb s t w1) => HRDG.o w1 h1 z ⟨by omega, by omega⟩)
  have hpl := read_small HI.o n 0 z
  obtain ⟨p, e3, hpe⟩ : ∃ p e3, s.read n 0 z = (p, e3) := ⟨_, _, rfl⟩
  rw [hpe] at HRD hR hpl
  dsimp only at HRD hR hpl
  clear hpe HRDG
  by_cases hp : e3 = 0
  case neg =>
    rw [if_pos hp] at hR
    have HF : Sd (R = (e3, s, 0, []) ∧ e3 ≠ 0) := ⟨hR, hp⟩
    have hb1 : (e3 != 0) = true := by simpa using hp
    clear hR hp
    go_enter Tryz.func17, Tryz.ntmps17
    go_wp2_with (first
      | (go_at_call 41; refine HO.o.mono ?_; rintro e w1 ⟨rfl, k1⟩; have K1 := Sd.mk k1; have H1 := Sd.mk (H.o.kept k1); clear k1)
      | (go_at_call 43; refine (HSZ.o _ H1.o).mono ?_; rintro e w2 ⟨rfl, k2⟩; have K2 := Sd.mk (K1.o.then k2); have H2 := Sd.mk (H1.o.kept k2); clear k2)
      | (go_at_call 44; refine (HRD.o _ H2.o).mono ?_; rintro e w3 ⟨A3, c3, rfl, o3, f3, k3⟩; have K3 := Sd.mk (K2.o.then k3); have H3 := Sd.mk (H2.o.kept k3); clear k3 o3 f3))
    go_ret2
    obtain ⟨q1, q2⟩ := HF.o
    subst q1
    exact ⟨K3.o.mono (fun _ _ f => f.elim), .inl ⟨q2, rfl, H3.o⟩⟩
  subst hp
  rw [if_neg (fun e => e rfl)] at hR
  cases hl : loadL p with
  | none =>
    rw [hl] at hR
    have hl0 := Sd.mk hl
    have HF : Sd (R = (51, s, 0, [])) := ⟨hR⟩
    clear hR hl
    go_enter Tryz.func17, Tryz.ntmps17
    go_wp2_with (first
      | (go_at_call 41; refine HO.o.mono ?_; rintro e w1 ⟨rfl, k1⟩; have K1 := Sd.mk k1; have H1 := Sd.mk (H.o.kept k1); clear k1)
      | (go_at_call 43; refine (HSZ.o _ H1.o).mono ?_; rintro e w2 ⟨rfl, k2⟩; have K2 := Sd.mk (K1.o.then k2); have H2 := Sd.mk (H1.o.kept k2); clear k2)
      | (go_at_call 44; refine (HRD.o _ H2.o).mono ?_; rintro e w3 ⟨A3, c3, rfl, o3, f3, k3⟩; have K3 := Sd.mk (K2.o.then k3); have H3 := Sd.mk (H2.o.kept k3); have HL3 := Sd.mk (tload_any w3 A3 c3 p (OwnV.own o3).bts hpl); clear k3 o3 f3)
      | (go_at_call 29; refine (HL3.o.mono fun e w' hp => load_no hl0.o hp).mono ?_; rintro e w4 ⟨rfl, k4⟩; have K4 := Sd.mk (K3.o.then k4); have H4 := Sd.mk (H3.o.kept k4); clear k4))
    go_ret2
    obtain ⟨rfl⟩ := HF
    exact ⟨K4.o.mono (fun _ _ f => f.elim), .inl ⟨show (51 : Int) ≠ 0 by decide, rfl, H4.o⟩⟩
  | some l =>
  rw [hl] at hR
  have hl0 := Sd.mk hl
  clear hl
  obtain ⟨k, hkk⟩ : ∃ k, k = (framesL p).2.1 := ⟨_, rfl⟩
  dsimp only at hR
  rw [← hkk] at hR
  unfold FSt.cutT at hR
  have HKK := Sd.mk hkk
  clear hkk
  by_cases hkz : (k : Int) < z
  case neg =>
    rw [if_neg hkz] at hR
    have HF : Sd (R = (0, s, n, l)) := ⟨hR⟩
    clear hR
    go_enter Tryz.func17, Tryz.ntmps17
    go_wp2_with (first
      | (go_at_call 41; refine HO.o.mono ?_; rintro e w1 ⟨rfl, k1⟩; have K1 := Sd.mk k1; have H1 := Sd.mk (H.o.kept k1); clear k1)
      | (go_at_call 43; refine (HSZ.o _ H1.o).mono ?_; rintro e w2 ⟨rfl, k2⟩; have K2 := Sd.mk (K1.o.then k2); have H2 := Sd.mk (H1.o.kept k2); clear k2)
      | (go_at_call 44; refine (HRD.o _ H2.o).mono ?_; rintro e w3 ⟨A3, c3, rfl, o3, f3, k3⟩; have K3 := Sd.mk (K2.o.then k3); have H3 := Sd.mk (H2.o.kept k3); have HL3 := Sd.mk (tload_any w3 A3 c3 p (OwnV.own o3).bts hpl); clear k3 o3 f3)
      | (go_at_call 29; refine (HL3.o.mono fun e w' hp => load_yes hl0.o hp).mono ?_; rintro e w4 ⟨tb, mb, A, c, rfl, t4, k4⟩; have T4 := Sd.mk (t4.less H3.o.keeps.size); have H4 := Sd.mk (tab_more H3.o k4 t4); have K4 := Sd.mk (K3.o.then k4); rw [← HKK.o]; clear t4 k4))
    go_ret2
    obtain ⟨h5, t5⟩ := tab_box n H4.o T4.o
    obtain ⟨rfl⟩ := HF
    exact ⟨(K4.o.mono (fun _ _ f => f.elim)).alloc _, .inr ⟨rfl, _, tb, mb, A, c, rfl, h5, t5⟩⟩
  rw [if_pos hkz] at hR
  have HCT := Sd.mk (fun (w4 : World) (T1 : Nat → Prop) (h4 : HalfT w0 T1 b rb s t w4) => xa_cut h4 HI.o (by omega) n k ⟨by omega, by omega⟩)
  have I5 := Sd.mk (HI.o.cutAt n k)
  obtain ⟨C, hC⟩ : ∃ C, C = s.cutAt n k := ⟨_, rfl⟩
  rw [← hC] at HCT I5 hR
  clear hC
  by_cases hc : C.1 = 0
  case neg =>
    rw [if_pos hc] at hR
    have hb1 : (C.1 == 0) = false := by simpa using hc
    have hb2 : (C.1 != 0) = true := by simpa using hc
    have HF : Sd (R = (C.1, C.2, n, l) ∧ C.1 ≠ 0) := ⟨hR, hc⟩
    clear hR hc
    go_enter Tryz.func17, Tryz.ntmps17
    go_wp2_with (first
      | (go_at_call 41; refine HO.o.mono ?_; rintro e w1 ⟨rfl, k1⟩; have K1 := Sd.mk k1; have H1 := Sd.mk (H.o.kept k1); clear k1)
      | (go_at_call 43; refine (HSZ.o _ H1.o).mono ?_; rintro e w2 ⟨rfl, k2⟩; have K2 := Sd.mk (K1.o.then k2); have H2 := Sd.mk (H1.o.kept k2); clear k2)
      | (go_at_call 44; refine (HRD.o _ H2.o).mono ?_; rintro e w3 ⟨A3, c3, rfl, o3, f3, k3⟩; have K3 := Sd.mk (K2.o.then k3); have H3 := Sd.mk (H2.o.kept k3); have HL3 := Sd.mk (tload_any w3 A3 c3 p (OwnV.own o3).bts hpl); clear k3 o3 f3)
      | (go_at_call 29; refine (HL3.o.mono fun e w' hp => load_yes hl0.o hp).mono ?_; rintro e w4 ⟨tb, mb, A, c, rfl, t4, k4⟩; have T4 := Sd.mk (t4.less H3.o.keeps.size); have H4 := Sd.mk (tab_more H3.o k4 t4); have K4 := Sd.mk (K3.o.then k4); rw [← HKK.o]; clear t4 k4)
      | (go_at_call 45; refine (HCT.o _ _ H4.o).mono ?_; rintro e w5 ⟨rfl, h5, k5⟩; have H5 := Sd.mk h5; have K5 := Sd.mk (k5.mono (fun i _ f => offT.or f)); clear h5 k5))
    go_ret2
    obtain ⟨q1, q2⟩ := HF.o
    subst q1
    exact ⟨(K4.o.mono (fun _ _ f => f.elim)).trans K5.o (fun _ _ f => f) (fun _ _ f => f), .inl ⟨q2, rfl, H5.o.less (fun i hi => .inl hi)⟩⟩
  rw [if_neg (fun e => e hc)] at hR
  have hb1 : (C.1 == 0) = true := by simpa using hc
  have HSY := Sd.mk (fun (w5 : World) (T1 : Nat → Prop) (h5 : HalfT w0 T1 b rb C.2 t w5) => xa_sync h5 I5.o (by omega) n)
  obtain ⟨Y, hY⟩ : ∃ Y, Y = C.2.sync n := ⟨_, rfl⟩
  rw [← hY] at HSY hR
  clear hY hc
  by_cases hy : Y.1 = 0
  case neg =>
    have hb3 : (Y.1 != 0) = true := by simpa using hy
    have HF : Sd (R = (Y.1, Y.2, n, l) ∧ Y.1 ≠ 0) := ⟨hR, hy⟩
    clear hR hy
    go_enter Tryz.func17, Tryz.ntmps17
    go_wp2_with (first
      | (go_at_call 41; refine HO.o.mono ?_; rintro e w1 ⟨rfl, k1⟩; have K1 := Sd.mk k1; have H1 := Sd.mk (H.o.kept k1); clear k1)
      | (go_at_call 43; refine (HSZ.o _ H1.o).mono ?_; rintro e w2 ⟨rfl, k2⟩; have K2 := Sd.mk (K1.o.then k2); have H2 := Sd.mk (H1.o.kept k2); clear k2)
      | (go_at_call 44; refine (HRD.o _ H2.o).mono ?_; rintro e w3 ⟨A3, c3, rfl, o3, f3, k3⟩; have K3 := Sd.mk (K2.o.then k3); have H3 := Sd.mk (H2.o.kept k3); have HL3 := Sd.mk (tload_any w3 A3 c3 p (OwnV.own o3).bts hpl); clear k3 o3 f3)
      | (go_at_call 29; refine (HL3.o.mono fun e w' hp => load_yes hl0.o hp).mono ?_; rintro e w4 ⟨tb, mb, A, c, rfl, t4, k4⟩; have T4 := Sd.mk (t4.less H3.o.keeps.size); have H4 := Sd.mk (tab_more H3.o k4 t4); have K4 := Sd.mk (K3.o.then k4); rw [← HKK.o]; clear t4 k4)
      | (go_at_call 45; refine (HCT.o _ _ H4.o).mono ?_; rintro e w5 ⟨rfl, h5, k5⟩; have H5 := Sd.mk h5; have K5 := Sd.mk (k5.mono (fun i _ f => offT.or f)); clear h5 k5)
      | (go_at_call 46; refine (HSY.o _ _ H5.o).mono ?_; rintro e w6 ⟨rfl, h6, k6⟩; have H6 := Sd.mk h6; have K6 := Sd.mk (K5.o.trans (k6.mono (fun i _ f => offT.or f)) (fun _ _ f => f) (fun _ _ f => f)); clear h6 k6))
    go_ret2
    obtain ⟨q1, q2⟩ := HF.o
    subst q1
    exact ⟨(K4.o.mono (fun _ _ f => f.elim)).trans K6.o (fun _ _ f => f) (fun _ _ f => f), .inl ⟨q2, rfl, H6.o.less (fun i hi => .inl hi)⟩⟩
  have hb3 : (Y.1 != 0) = false := by simpa using hy
  have HF : Sd (R = (0, Y.2, n, l)) := ⟨by rw [hR, hy]⟩
  clear hR hy
  go_enter Tryz.func17, Tryz.ntmps17
  go_wp2_with (first
    | (go_at_call 41; refine HO.o.mono ?_; rintro e w1 ⟨rfl, k1⟩; have K1 := Sd.mk k1; have H1 := Sd.mk (H.o.kept k1); clear k1)
    | (go_at_call 43; refine (HSZ.o _ H1.o).mono ?_; rintro e w2 ⟨rfl, k2⟩; have K2 := Sd.mk (K1.o.then k2); have H2 := Sd.mk (H1.o.kept k2); clear k2)
    | (go_at_call 44; refine (HRD.o _ H2.o).mono ?_; rintro e w3 ⟨A3, c3, rfl, o3, f3, k3⟩; have K3 := Sd.mk (K2.o.then k3); have H3 := Sd.mk (H2.o.kept k3); have HL3 := Sd.mk (tload_any w3 A3 c3 p (OwnV.own o3).bts hpl); clear k3 o3 f3)
    | (go_at_call 29; refine (HL3.o.mono fun e w' hp => load_yes hl0.o hp).mono ?_; rintro e w4 ⟨tb, mb, A, c, rfl, t4, k4⟩; have T4 := Sd.mk (t4.less H3.o.keeps.size); have H4 := Sd.mk (tab_more H3.o k4 t4); have K4 := Sd.mk (K3.o.then k4); rw [← HKK.o]; clear t4 k4)
    | (go_at_call 45; refine (HCT.o _ _ H4.o).mono ?_; rintro e w5 ⟨rfl, h5, k5⟩; have H5 := Sd.mk h5; have T5 := Sd.mk (T4.o.keepsB k5 (fun i hi f => f.1 (.inr hi))); have K5 := Sd.mk (k5.mono (fun i _ f => offT.or f)); clear h5 k5)
    | (go_at_call 46; refine (HSY.o _ _ H5.o).mono ?_; rintro e w6 ⟨rfl, h6, k6⟩; have H6 := Sd.mk h6; have T6 := Sd.mk (T5.o.keepsB k6 (fun i hi f => f.1 (.inr hi))); have K6 := Sd.mk (K5.o.trans (k6.mono (fun i _ f => offT.or f)) (fun _ _ f => f) (fun _ _ f => f)); clear h6 k6))
  go_ret2
  obtain ⟨h7, t7⟩ := tab_box n H6.o T6.o
  obtain ⟨rfl⟩ := HF
  exact ⟨((K4.o.mono (fun _ _ f => f.elim)).trans K6.o (fun _ _ f => f) (fun _ _ f => f)).alloc _, .inr ⟨rfl, _, tb, mb, A, c, rfl, h7, t7⟩⟩
end Go.Proofs.YtdjamijbhaplgaaGreat
namespace Go.Proofs.YtdjamijbhaplgaaGreat
open Go.RowKit Go.Maps

/-- A document's table in block b; all its blocks are new since base. -/
structure IsR (w : World) (base b : Nat) (A : Option Addr) (c : Nat) (l : List (List UInt8)) : Prop where
  blk : w.heap[b]? = some (.cells #[.slice A l.length c] 68 (0, 0))
  own : OwnV w 9 (.slice A l.length c) (strs l)
  b0 : base ≤ b
  a0 : ∀ k, (Value.slice A l.length c).ownBlock = some k → base ≤ k
theorem IsR.keeps {F : Nat → Prop} {w w' : World} {base b : Nat} {A : Option Addr} {c : Nat} {l : List (List UInt8)} (h : IsR w base b A c l) (k : Keeps F w w') (hF : ∀ i, base ≤ i → i < w.heap.size → ¬ F i) : IsR w' base b A c l :=
  ⟨k.obj h.blk (hF b h.b0 (Array.getElem?_eq_some_iff.1 h.blk).1), h.own.keeps k (fun i hi => hF i (h.a0 i hi) (h.own.lt i hi)), h.b0, h.a0⟩
theorem IsR.kept {w w' : World} {base b : Nat} {A : Option Addr} {c : Nat} {l : List (List UInt8)} (h : IsR w base b A c l) (k : Keeps NoB w w') : IsR w' base b A c l := h.keeps k (fun _ _ _ f => f)
set_option maxHeartbeats 1000000 in
theorem trnew_any (w : World) : Calls Tryz.prog 50 #[] w fun e w' => ∃ b A c, e = .returned (.pointer (some ⟨b, 0, none⟩)) ∧ IsR w' w.heap.size b A c [[]] ∧ Keeps NoB w w' := by
  go_enter Tryz.func50, Tryz.ntmps50
  go_wp2
  go_ret
  have hb1 : (w.alloc (.cells #[.string ⟨#[]⟩] 9)).heap[w.heap.size]? = some (.cells #[.string ⟨#[]⟩] 9 (0, 0)) := heap_alloc_new w _
  have hk2 : Keeps NoB (w.alloc (.cells #[.string ⟨#[]⟩] 9)) ((w.alloc (.cells #[.string ⟨#[]⟩] 9)).alloc (.cells #[.slice (some ⟨w.heap.size, 0, none⟩) 1 1] 68)) := (Keeps.refl NoB _).alloc _
  refine ⟨w.heap.size + 1, some ⟨w.heap.size, 0, none⟩, 1, rfl, ⟨by simpa using heap_alloc_new (w.alloc (.cells #[.string ⟨#[]⟩] 9)) (.cells #[.slice (some ⟨w.heap.size, 0, none⟩) 1 1] 68), ⟨by simp [strs], .inr ⟨w.heap.size, 1, #[.string ⟨#[]⟩], rfl, Nat.zero_le _, hk2.obj hb1 (fun f => f), by simp [strs], by decide, by simp, by simp [strs, sOf]⟩⟩, by simp, fun k hk => by simp [Value.ownBlock] at hk; omega⟩, ((Keeps.refl NoB w).alloc _).then hk2⟩
def numR (l : List (List UInt8)) (s : List UInt8) : Int := if s ∈ l then (l.idxOf s : Int) else -1
theorem idx_first : ∀ (l : List (List UInt8)) (j : Nat) (s : List UInt8) (h : j < l.length), l[j] = s → s ∉ l.take j → l.idxOf s = j
  | [], _, _, h, _, _ => by simp at h
  | x :: l, 0, s, _, e, _ => by simp at e; simp [e]
  | x :: l, j + 1, s, h, e, hn => by
    simp only [List.take_succ_cons, List.mem_cons, not_or] at hn
    have h' : j < l.length := by simpa using h
    have e' : l[j]'h' = s := e
    have hx : (x == s) = false := by simpa using Ne.symm hn.1
    rw [List.idxOf_cons, hx, idx_first l j s h' e' hn.2]
    rfl
theorem numR_at (l : List (List UInt8)) (j : Nat) (s : List UInt8) (h : j < l.length) (e : l[j] = s) (hn : s ∉ l.take j) : numR l s = j := by
  unfold numR
  rw [if_pos (e ▸ List.getElem_mem h), idx_first l j s h e hn]
theorem mem_take_succ {l : List (List UInt8)} {j : Nat} {s : List UInt8} (h : j < l.length) (hn : s ∉ l.take j) (hne : ¬ l[j] = s) : s ∉ l.take (j + 1) := by
  rw [List.take_succ_eq_append_getElem h, List.mem_append, List.mem_singleton, not_or]
  exact ⟨hn, fun e => hne e.symm⟩
set_option maxHeartbeats 2000000 in
theorem trnumber_any (w : World) (base b : Nat) (A : Option Addr) (c : Nat) (l : List (List UInt8)) (h : IsR w base b A c l) (hl : l.length ≤ 140737488355328) (S : ByteArray) :
    Calls Tryz.prog 59 #[.pointer (some ⟨b, 0, none⟩), .string S] w fun e w' => e = .returned (.int .i64 (numR l S.toList)) ∧ ∃ n, w' = w.drewN n := by
  have h0 : w.cell? ⟨b, 0, none⟩ = some (.slice A l.length c) := blk_cell h.blk 0
  have HV := Sd.mk h.own.vrd.2.2.2.2.2
  clear h
  go_enter Tryz.func59, Tryz.ntmps59
  go_wp2_with fail
  go_loopg [5] l.length (fun gk i wr => ∃ (j : Nat), gk + j = l.length ∧ i = .int .i64 j ∧ Sd (S.toList ∉ l.take j) ∧ Sd (w = wr))
  case atStart => exact ⟨0, by omega, rfl, ⟨by simp⟩, ⟨rfl⟩⟩
  case round =>
    obtain ⟨j, hj, rfl, hno, ⟨rfl⟩⟩ := hrel
    by_cases hlt : j < l.length
    · have hq : (j : Int) < (l.length : Int) := by omega
      obtain ⟨b1, o1, rfl, hc⟩ := HV.o j (by rw [strs_len]; exact hlt)
      have hc2 : w.cell? ⟨b1, o1 + j, none⟩ = some (.string (sOf l[j])) := by rw [hc]; simp [strs]
      clear hc
      by_cases he : l[j] = S.toList
      · have hb : ((sOf l[j]).toList == S.toList) = true := by rw [sOf_toList, he]; simp
        have HE := Sd.mk he
        clear he
        go_wp2_with fail
        go_ret
        exact ⟨by rw [numR_at l j S.toList hlt HE.o hno.o]; rfl, 0, rfl⟩
      · have hb : ((sOf l[j]).toList == S.toList) = false := by rw [sOf_toList]; simpa using he
        have HE := Sd.mk he
        clear he
        go_wp2_with fail
        go_roundg (gk - 1)
        case measure => omega
        case rel => exact ⟨j + 1, by omega, by go_num, ⟨mem_take_succ hlt hno.o HE.o⟩, ⟨rfl⟩⟩
    · have hq : ¬ (j : Int) < (l.length : Int) := by omega
      have hn : S.toList ∉ l := by have := hno.o; rwa [List.take_of_length_le (by omega)] at this
      have HN : Sd (numR l S.toList = -1) := ⟨by unfold numR; rw [if_neg hn]⟩
      clear hn
      go_wp2_with fail
      go_ret
      exact ⟨by rw [HN.o]; rfl, 0, rfl⟩
set_option maxHeartbeats 2000000 in
theorem trsymbol_any (w : World) (S : ByteArray) (hS : S.size ≤ 140737488355328) :
    Calls Tryz.prog 93 #[.string S] w fun e w' => e = .returned (.bool (mayL S.data.toList)) ∧ ∃ n, w' = w.drewN n := by
  have hsz : S.data.toList.length = S.size := by rw [Array.length_toList]; rfl
  go_enter Tryz.func93, Tryz.ntmps93
  go_wp2_with fail
  go_loopg [3] S.size (fun gk i wr => ∃ (j : Nat), gk + j = S.size ∧ i = .int .i64 j ∧ Sd (0 ∉ S.data.toList.take j) ∧ Sd (w = wr))
  case atStart => exact ⟨0, by omega, rfl, ⟨by simp⟩, ⟨rfl⟩⟩
  case round =>
    obtain ⟨j, hj, rfl, hno, ⟨rfl⟩⟩ := hrel
    by_cases hlt : j < S.size
    · have hq : (j : Int) < (S.size : Int) := by omega
      have hjl : j < S.data.toList.length := by omega
      have hget : S.data.toList[j] = S[j]'hlt := by rw [Array.getElem_toList]; rfl
      by_cases hz : S[j]'hlt = 0
      · have hb : (((S[j]'hlt).toNat : Int) == 0) = true := by rw [hz]; rfl
        have hm : Sd (mayL S.data.toList = false) := ⟨by
          have : (0 : UInt8) ∈ S.data.toList := by rw [← hz, ← hget]; exact List.getElem_mem hjl
          unfold mayL
          rw [List.contains_iff_mem.2 this]
          simp⟩
        clear hget hz
        go_wp2_with fail
        go_ret
        exact ⟨by rw [hm.o]; rfl, 0, rfl⟩
      · have hb : (((S[j]'hlt).toNat : Int) == 0) = false := by
          have : (S[j]'hlt).toNat ≠ 0 := fun h => hz (UInt8.toNat_inj.1 h)
          simp only [beq_eq_false_iff_ne, ne_eq]
          omega
        have hm : Sd ((0 : UInt8) ∉ S.data.toList.take (j + 1)) := ⟨by
          rw [List.take_succ_eq_append_getElem hjl, List.mem_append, List.mem_singleton, not_or]
          exact ⟨hno.o, fun e => hz (hget.symm.trans e.symm)⟩⟩
        clear hget hz
        go_wp2_with fail
        go_roundg (gk - 1)
        case measure => omega
        case rel => exact ⟨j + 1, by omega, by go_num, hm, ⟨rfl⟩⟩
    · have hq : ¬ (j : Int) < (S.size : Int) := by omega
      have hm : Sd (mayL S.data.toList = decide ((S.size : Int) ≤ 64)) := ⟨by
        have h := hno.o
        rw [List.take_of_length_le (by omega)] at h
        unfold mayL
        have e : decide (S.size ≤ 64) = decide ((S.size : Int) ≤ 64) := decide_eq_decide.2 (by omega)
        rw [hsz, List.contains_eq_mem, decide_eq_false h, e]
        simp⟩
      go_wp2_with fail
      go_ret
      exact ⟨by rw [hm.o]; rfl, 0, rfl⟩
end Go.Proofs.YtdjamijbhaplgaaGreat
