/- live of the symtab's statements. -/
import Derived.Deep.RegionHeld3
import Derived.Deep.RegionLaw
import Derived.Deep.DeepCutAuto
import Derived.Test.YtdjamijbhaplgaaGreatGkbb
import Derived.Test.YtdjamijbhaplgaaGreatGkay
import Derived.Test.YtdjamijbhaplgaaGreatGkav
import Derived.Test.YtdjamijbhaplgaaGreatGkaq
import Derived.Test.YtdjamijbhaplgaaGreatGkaw
import Derived.Test.YtdjamijbhaplgaaGreatGkau
import Derived.Test.YtdjamijbhaplgaaGreatGkax
import Derived.Test.YtdjamijbhaplgaaGreatGkan
namespace Go.Proofs.YtdjamijbhaplgaaGreat
open Go.RowKit Go.Maps

theorem IsT.lt {w : World} {base b mb : Nat} {A : Option Addr} {c : Nat} {l : List (List UInt8)} (h : IsT w base b mb A c l) : ∀ i, TabB b mb (.slice A l.length c) i → i < w.heap.size := fun i f => by
  rcases f with f | f | f
  · rw [f]; exact (Array.getElem?_eq_some_iff.1 h.blk).1
  · rw [f]; exact h.map.lt
  · exact h.own.lt i f
theorem IsT.from {w : World} {base b mb : Nat} {A : Option Addr} {c : Nat} {l : List (List UInt8)} (h : IsT w base b mb A c l) : ∀ i, TabB b mb (.slice A l.length c) i → base ≤ i := fun i f => by
  rcases f with f | f | f
  · rw [f]; exact h.b0
  · rw [f]; exact h.m0
  · exact h.a0 i f
set_option maxHeartbeats 1000000 in
theorem intern_live (w : World) (base b mb : Nat) (A : Option Addr) (c : Nat) (h : IsT w base b mb A c [[]]) (hbase : base ≤ w.heap.size) (g : Nat) (hg : g = w.heap.size) (X : List UInt8) (hX : (addedL liveS [[]]).flatMap frameL = X) (hX2 : X.length = 20) :
    Calls Tryz.prog 27 #[.pointer (some ⟨b, 0, none⟩), .slice (some ⟨g, 0, none⟩) 4 4] (w.alloc (.cells #[.string ⟨#[97]⟩, .string ⟨#[]⟩, .string ⟨#[98]⟩, .string ⟨#[97]⟩] 9)) fun e w' => ∃ A' c' Ao co Ab cb,
      e = .returned (.tuple #[.slice Ao 4 co, .slice Ab 20 cb, .int .i64 0]) ∧ IsT w' base b mb A' c' [[], [97], [98]] ∧ OwnV w' 3 (.slice Ao 4 co) (ints [1, 0, 2, 1]) ∧ OwnV w' 5 (.slice Ab 20 cb) (bvs X) ∧ Keeps (FromB base) w w' := by
  have hT := h.kept ((Keeps.refl NoB w).alloc (.cells #[.string ⟨#[97]⟩, .string ⟨#[]⟩, .string ⟨#[98]⟩, .string ⟨#[97]⟩] 9))
  have hv : VRd (w.alloc (.cells #[.string ⟨#[97]⟩, .string ⟨#[]⟩, .string ⟨#[98]⟩, .string ⟨#[97]⟩] 9)) (some ⟨g, 0, none⟩) (strs liveS) := many_vrd (vs := strs liveS) (e := 9) hg
  have hc := intern_any _ base b mb A c [[]] hT (by simp; omega) (some ⟨g, 0, none⟩) 4 liveS hv (fun _ b1 o1 s1 e f => by
    cases e
    have := h.lt _ f
    omega) (by simp [liveS]) (by simp [liveS])
  refine hc.mono ?_
  rintro e w' ⟨hK, h1 | h1⟩
  · exact absurd (by decide) h1.1
  · obtain ⟨_, A', c', Ao, co, Ab, cb, rfl, hT', hO, hB, _⟩ := h1
    rw [hX, hX2] at *
    refine ⟨A', c', Ao, co, Ab, cb, rfl, live_in ▸ hT', live_out ▸ hO, hB, ?_⟩
    exact ((Keeps.refl NoB w).alloc _).trans hK (fun _ _ f => f.elim) (fun i hi f => h.from i f)

set_option maxHeartbeats 4000000 in
set_option maxRecDepth 100000 in
theorem slive_any (w : World) : Calls Tryz.prog 4 #[] w fun e w' => e = .returned (.bool true) ∧ Keeps NoB w w' := by
  obtain ⟨X, hX, hX2, hX3, hX4, hX5⟩ := live_all
  have HX := Sd.mk hX
  have HX3 := Sd.mk hX3
  have HX4 := Sd.mk hX4
  have HX5 := Sd.mk hX5
  have HX2 := Sd.mk hX2
  clear hX hX2 hX3 hX4 hX5
  go_enter Tryz.func4, Tryz.ntmps4
  go_wp2_with (go_at_call 26; refine (tnew_any _).mono ?_)
  rintro e w1 ⟨b, mb, A, c, rfl, hT, hK⟩
  have HT := Sd.mk hT
  have HK := Sd.mk hK
  have HS := Sd.mk hK.size
  clear hT hK
  go_wp2_with (go_at_call 27; go_must (refine (intern_live w1 _ b mb A c HT.o HS.o _ rfl X HX.o HX2.o).mono ?_))
  rintro e w2 ⟨A2, c2, Ao, co, Ab, cb, rfl, hT2, hO, hB, hK2⟩
  have HT2 := Sd.mk hT2
  have HO := Sd.mk hO.vrd
  have HB := Sd.mk hB
  have HK2 : Sd (Keeps NoB w w2) := ⟨HK.o.trans hK2 (fun _ _ f => f) (fun i hi f => absurd hi (Nat.not_lt.2 f))⟩
  clear hT2 hO hB hK2 HT HK HS
  go_wp2_with (go_at_call 28; go_must (refine (tsymbol_any w2 _ b mb A2 c2 _ HT2.o 2).mono ?_))
  rintro e w3 ⟨rfl, rfl⟩
  rw [show (symAt [[], [97], [98]] 2) = ([98], 0) from by decide]
  go_wp2_with (go_at_call 28; go_must (refine (tsymbol_any w2 _ b mb A2 c2 _ HT2.o 3).mono ?_))
  rintro e w3 ⟨rfl, rfl⟩
  rw [show (symAt [[], [97], [98]] 3) = ([], 50) from by decide]
  have hmx : max (0 : Int) 19 = 19 := by decide
  obtain ⟨i0, hi, hz0, hz1, hz2⟩ := info_parts infoU8
  have hbv := HB.o.vrd
  have hl20 : (20 : Nat) ≤ cb := hbv.2.1
  have hsp := hbv.2.2.2.2.1
  have hsli := slice_run_h 49 5 .i64 Tryz.underlying49 hi hz1 Ab 20 cb 19 (fun _ a ha => (hsp a ha).1) (by omega) w2 19 rfl
  have hb19 : Bts w2 (.slice Ab (X.take 19).length cb) (X.take 19) := by
    have := HB.o.bts
    rw [← HX2.o] at this
    have h2 := this.take 19 (by rw [HX2.o]; decide)
    rw [HX3.o]
    exact h2
  have HL := tload_any w2 Ab cb (X.take 19) hb19 (by rw [HX3.o]; decide)
  rw [HX3.o] at HL
  have HLs := Sd.mk HL
  clear hbv hb19 HL hi hz0 hz1 hz2 hsp
  go_wp2_with (go_at_call 29; go_must (refine HLs.o.mono ?_))
  rintro e w3 ⟨hK3, h1 | h1⟩
  · rw [HX4.o] at h1; exact absurd h1.1 (by simp)
  obtain ⟨l3, b3, mb3, A3, c3, hl3, rfl, hT3⟩ := h1
  rw [HX4.o] at hl3
  cases hl3
  rw [HX5.o]
  have HT3 := Sd.mk hT3
  have HK3 : Sd (Keeps NoB w w3) := ⟨HK2.o.then hK3⟩
  have HO3 : Sd (VRd w3 Ao (ints [1, 0, 2, 1])) := ⟨HO.o.2.2.2.2.2.keeps hK3 (fun _ _ _ _ f => f)⟩
  have HT4 := Sd.mk (HT2.o.kept hK3)
  clear hT3 hK3 HK2 HO HT2 HLs hsli hmx HX HX2 HX3 HX4 HX5 HB
  have hq1 : (sOf [98]).toList = [98] := by rw [sOf_toList]
  go_wp2_with (first | (go_at_call 12; refine (num_law _ _).mono ?_; rintro e w' ⟨rfl, rfl⟩) | fail)
  have HKA : Sd (Keeps NoB w3 (w3.alloc (.cells #[.int .i64 1, .int .i64 0, .int .i64 2, .int .i64 1] 3))) := ⟨(Keeps.refl NoB w3).alloc _⟩
  go_must (refine (rints_any (w3.alloc (.cells #[.int .i64 1, .int .i64 0, .int .i64 2, .int .i64 1] 3)) Ao (some ⟨w3.heap.size, 0, none⟩) co 4 [1, 0, 2, 1] [1, 0, 2, 1] (HO3.o.keeps HKA.o (fun _ _ _ _ f => f)) (many_vrd (vs := ints [1, 0, 2, 1]) rfl) (by decide) (by decide)).mono ?_)
  rintro e w4 ⟨rfl, n, rfl⟩
  have HK5 : Sd (Keeps NoB w ((w3.alloc (.cells #[.int .i64 1, .int .i64 0, .int .i64 2, .int .i64 1] 3)).drewN n)) := ⟨(HK3.o.alloc _).drewN _⟩
  have HT5 := Sd.mk (HT3.o.kept (HKA.o.drewN n))
  have HT6 := Sd.mk (HT4.o.kept (HKA.o.drewN n))
  clear HK3 HT3 HT4 HKA HO3
  generalize (w3.alloc (.cells #[.int .i64 1, .int .i64 0, .int .i64 2, .int .i64 1] 3)).drewN n = w5 at *
  rw [show decide ([1, 0, 2, 1] = ([1, 0, 2, 1] : List Nat)) = true from by decide]
  go_wp2_with (first | (go_at_call 12; refine (num_law _ _).mono ?_; rintro e w' ⟨rfl, rfl⟩) | (go_at_call 25; first | (with_reducible refine (tlen_any _ _ _ _ _ _ _ HT5.o).mono ?_; rintro e w' ⟨rfl, rfl⟩) | (with_reducible refine (tlen_any _ _ _ _ _ _ _ HT6.o).mono ?_; rintro e w' ⟨rfl, rfl⟩)))
  go_ret
  exact ⟨rfl, HK5.o⟩
end Go.Proofs.YtdjamijbhaplgaaGreat
namespace Go.Proofs.YtdjamijbhaplgaaGreat
open Go.RowKit Go.Maps

theorem IsT.keepsB {F : Nat → Prop} {w w' : World} {base b mb : Nat} {A : Option Addr} {c : Nat} {l : List (List UInt8)} (h : IsT w base b mb A c l) (k : Keeps F w w') (hF : ∀ i, TabB b mb (.slice A l.length c) i → ¬ F i) : IsT w' base b mb A c l :=
  ⟨k.obj h.blk (hF b (.inl rfl)), h.own.keeps k (fun i hi => hF i (.inr (.inr hi))), h.map.keeps k (hF mb (.inr (.inl rfl))), h.ne, h.sz, h.b0, h.m0, h.a0⟩
set_option maxHeartbeats 4000000 in
set_option maxRecDepth 100000 in
theorem tcopy_any (w : World) (base b mb : Nat) (A : Option Addr) (c : Nat) (l : List (List UInt8)) (h : IsT w base b mb A c l) (g : GoodT l) :
    Calls Tryz.prog 55 #[.pointer (some ⟨b, 0, none⟩)] w fun e w' => ∃ b2 mb2 A2 c2, e = .returned (.pointer (some ⟨b2, 0, none⟩)) ∧ IsT w' w.heap.size b2 mb2 A2 c2 l ∧ Keeps NoB w w' := by
  obtain ⟨r, hr⟩ := g.head
  have hlen := g.len
  have hnd := g.nodup
  subst hr
  have H := Sd.mk h
  have hv := h.own.vrd
  obtain ⟨gb, o, hA, _⟩ := hv.2.2.2.2.2 0 (by simp [strs])
  have hc1 : r.length + 1 ≤ c := by have := hv.2.1; simpa using this
  have hc2 := hv.2.2.1
  subst hA
  have h0 := blk_cell h.blk 0
  have HV := Sd.mk hv.2.2.2.2.2
  have HND := Sd.mk hnd
  clear hv h hnd
  simp only [List.length_cons] at hlen h0
  go_enter Tryz.func55, Tryz.ntmps55
  go_upto_region 4 with (go_at_call 26; refine (tnew_any w).mono ?_; rintro e w1 ⟨b2, mb2, A2, c2, rfl, h1, hk1⟩; have H1 := Sd.mk h1; have HK1 := Sd.mk hk1; have h01 := hk1.cell h0 (fun f => f); clear h1 hk1)
  clear h0
  by_cases hc0 : c = 1
  · have hr0 : r = [] := List.eq_nil_of_length_eq_zero (by omega)
    subst hr0
    subst hc0
    go_wp2_with fail
    go_loopg [15] 0 (fun gk i wr => i = .int .i64 0 ∧ Sd (w1 = wr))
    case atStart => exact ⟨rfl, ⟨rfl⟩⟩
    case round =>
      obtain ⟨rfl, ⟨rfl⟩⟩ := hrel
      go_wp2_with fail
      go_ret
      exact ⟨b2, mb2, A2, c2, rfl, H1.o, HK1.o⟩
  have hws : w.heap.size ≤ w1.heap.size := HK1.o.size
  go_wp2_with fail
  go_loopg [15] r.length (fun gk i wr => ∃ (k : Nat) (A3 : Option Addr) (c3 : Nat), gk + k = r.length ∧ i = .int .i64 k ∧ Sd (IsT wr w.heap.size b2 mb2 A3 c3 ([] :: r.take k)) ∧ Sd (Keeps NoB w wr))
  case atStart => exact ⟨0, A2, c2, by omega, rfl, ⟨by simpa using H1.o⟩, HK1⟩
  case round =>
    obtain ⟨k, A3, c3, hk, rfl, HT, HK⟩ := hrel
    by_cases hlt : k < r.length
    case neg =>
      have hq : ¬ (k : Int) < (r.length : Int) := by omega
      have hT := HT.o
      rw [List.take_of_length_le (by omega)] at hT
      have HT2 := Sd.mk hT
      clear hT HT
      go_wp2_with fail
      go_ret
      first
        | exact ⟨b2, mb2, A3, c3, rfl, HT2.o, HK.o⟩
        | exact ⟨b2, rfl, ⟨mb2, A3, c3, HT2.o⟩, HK.o⟩
    have hq : (k : Int) < (r.length : Int) := by omega
    have hq0 : (0 : Int) ≤ (k : Int) := by omega
    obtain ⟨b5, o5, e5, hc⟩ := HV.o (k + 1) (by simp [strs]; omega)
    cases e5
    have hc3 : wr.cell? ⟨gb, o + (k + 1), none⟩ = some (.string (sOf r[k])) := by rw [HK.o.cell hc (fun f => f)]; simp [strs]
    have hc4 : wr.cell? ⟨gb, o + 1 + k, none⟩ = some (.string (sOf r[k])) := by rw [← hc3, show o + (k + 1) = o + 1 + k by omega]
    have hsz := H.o.sz r[k] (List.mem_cons_of_mem _ (List.getElem_mem hlt))
    have htk : r.take (k + 1) = r.take k ++ [r[k]] := List.take_succ_eq_append_getElem hlt
    have hno : r[k] ∉ [] :: r.take k := by
      have hn := List.nodup_cons.1 HND.o
      intro hm
      rcases List.mem_cons.1 hm with hm | hm
      · exact hn.1 (hm ▸ List.getElem_mem hlt)
      · have h2 : (r.take (k + 1)).Nodup := hn.2.sublist (List.take_sublist _ _)
        rw [htk] at h2
        exact (List.nodup_append.1 h2).2.2 _ hm r[k] (by simp) rfl
    have hAD := tadd_any wr w.heap.size b2 mb2 A3 c3 ([] :: r.take k) HT.o (sOf r[k]) (by rw [sOf_size]; exact hsz) (by rw [show (sOf r[k]).data.toList = r[k] from rfl]; exact hno) (by simp only [List.length_cons, List.length_take]; omega) HK.o.size
    rw [show (sOf r[k]).data.toList = r[k] from rfl, List.cons_append, ← htk] at hAD
    have HAD := Sd.mk hAD
    clear hc hc3 hsz htk hno hAD
    generalize sOf r[k] = S0 at *
    go_wp2_with (go_at_call 67; refine HAD.o.mono ?_; rintro e w3 ⟨rfl, ⟨A4, c4, hT4⟩, hk3⟩; have HT4 := Sd.mk hT4; have HK4 : Sd (Keeps NoB w w3) := ⟨HK.o.trans hk3 (fun _ _ f => f) (fun i hi (f : w.heap.size ≤ i) => by omega)⟩; clear hT4 hk3)
    go_roundg (gk - 1)
    case measure => omega
    case rel => exact ⟨k + 1, A4, c4, by omega, by go_num, HT4, HK4⟩
end Go.Proofs.YtdjamijbhaplgaaGreat
namespace Go.Proofs.YtdjamijbhaplgaaGreat
open Go.RowKit Go.Maps Go.Lib

theorem RowU.keepsD {F : Nat → Prop} {w w' : World} {v : Value} {xs : List UInt8} (h : RowU w v xs) (k : Keeps F w w') (hF : ∀ b, datB v = some b → ¬ F b) : RowU w' v xs := by
  have hne : ∀ a n c, v = .slice (some a) n c → 0 < c → ¬ F a.block := fun a n c e hc => hF _ (by
    rw [e]
    simp only [datB]
    rw [if_neg (by omega)]
    rfl)
  refine ⟨h.1.keeps k (fun a n c e hc => hne _ _ _ e hc), fun a n c e hc => ?_⟩
  obtain ⟨cur, q, hb⟩ := h.2 a n c e hc
  exact ⟨cur, q, k.obj hb (hne _ _ _ e hc)⟩
theorem IsFile.keepsD {F : Nat → Prop} {w w' : World} {f : FMem} {x : FileS} (h : IsFile w f x) (k : Keeps F w w') (hF : ∀ i, f.O i → ¬ F i) (hD : ∀ i, datB f.dv = some i ∨ datB f.sv = some i → ¬ F i) : IsFile w' f x :=
  ⟨k.obj h.blk (hF _ (.inl rfl)), h.dat.keepsD k (fun b hb => hD b (.inl hb)), h.saf.keepsD k (fun b hb => hD b (.inr hb)), h.log.keeps k (fun i hi => hF i (.inr hi))⟩
theorem IsFS.keepsD {F : Nat → Prop} {w w' : World} {m : FsMem} {s : FSt} (h : IsFS w m s) (k : Keeps F w w') (hF : ∀ i, m.O i → ¬ F i) (hD : ∀ i, m.DB i → ¬ F i) : IsFS w' m s :=
  ⟨k.obj h.blk (hF _ (.inl rfl)), h.files.keeps k (hF _ (.inr (.inl rfl))), h.names.keeps k (hF _ (.inr (.inr (.inl rfl)))), h.safe.keeps k (hF _ (.inr (.inr (.inr (.inl rfl))))),
   h.moves.keeps k (fun i hi => hF i (.inr (.inr (.inr (.inr (.inl hi)))))), fun n f hg => ⟨(h.file n f hg).1, (h.file n f hg).2.1, (h.file n f hg).2.2.keepsD k (fun i hi => hF i (.inr (.inr (.inr (.inr (.inr ⟨n, f, hg, hi⟩)))))) (fun i hi => hD i ⟨n, f, hg, hi⟩)⟩, h.apart, h.maps, h.has⟩
theorem IsFS.datLt {w : World} {m : FsMem} {s : FSt} (h : IsFS w m s) {k : Nat} (hk : m.DB k) : k < w.heap.size := by
  obtain ⟨n, f, hg, hd⟩ := hk
  obtain ⟨_, _, hf⟩ := h.file n f hg
  rcases hd with hd | hd
  · exact hf.dat.datLt hd
  · exact hf.saf.datLt hd
/-- A file system s at b and the document's t at rb; the blocks X hold what X says, and are others'. -/
def HalfAt (w0 : World) (X : Nat → Option Obj) (b rb : Nat) (s t : FSt) (w : World) : Prop :=
  ∃ (m : FsMem) (rm : RMem), m.b = b ∧ rm.b = rb ∧ IsFS w m s ∧ IsRS w rm t ∧ (∀ k, m.O k → ¬ rm.O k) ∧ (∀ k, m.O k ∨ m.DB k ∨ rm.O k → X k = none) ∧ (∀ k, m.O k ∨ rm.O k → w0.heap.size ≤ k) ∧ Keeps NoB w0 w ∧ ∀ k o, X k = some o → w.heap[k]? = some o
/-- Both are s. -/
def BothAt (w0 : World) (X : Nat → Option Obj) (b rb : Nat) (s : FSt) (w : World) : Prop := HalfAt w0 X b rb s s w
def addB (X : Nat → Option Obj) (g : Nat) (o : Obj) : Nat → Option Obj := fun i => if i = g then some o else X i
def noX : Nat → Option Obj := fun _ => none
section
variable {w0 w w' : World} {X : Nat → Option Obj} {b rb N : Nat} {s s' t t' : FSt}
theorem HalfAt.keeps (h : HalfAt w0 X b rb s t w) : Keeps NoB w0 w := by
  obtain ⟨m, rm, _, _, _, _, _, _, _, hk, _⟩ := h
  exact hk
theorem HalfAt.blk (h : HalfAt w0 X b rb s t w) {g : Nat} {o : Obj} (hg : X g = some o) : w.heap[g]? = some o := by
  obtain ⟨m, rm, _, _, _, _, _, _, _, _, hl⟩ := h
  exact hl g o hg
theorem HalfAt.kept (h : HalfAt w0 X b rb s t w) (k : Keeps NoB w w') : HalfAt w0 X b rb s t w' := by
  obtain ⟨m, rm, e1, e2, hi, hr, ha, hx, ho, hk, hl⟩ := h
  exact ⟨m, rm, e1, e2, hi.kept k, hr.kept k, ha, hx, ho, hk.then k, fun i o hi => k.obj (hl i o hi) (fun f => f)⟩
theorem HalfAt.fs (h : HalfAt w0 X b rb s t w) : ∃ m : FsMem, m.b = b ∧ IsFS w m s := by
  obtain ⟨m, rm, e1, e2, hi, _⟩ := h
  exact ⟨m, e1, hi⟩
theorem HalfAt.rs (h : HalfAt w0 X b rb s t w) : ∃ m : RMem, m.b = rb ∧ IsRS w m t := by
  obtain ⟨m, rm, e1, e2, hi, hr, _⟩ := h
  exact ⟨rm, e2, hr⟩
/-- Another's block changes. -/
theorem HalfAt.turn (h : HalfAt w0 X b rb s t w) {g : Nat} {o o' : Obj} (hX : X g = some o) (hg : w0.heap.size ≤ g) (k : Keeps (OneB g) w w') (hb : w'.heap[g]? = some o') : HalfAt w0 (addB X g o') b rb s t w' := by
  obtain ⟨m, rm, e1, e2, hi, hr, ha, hx, ho, hk, hl⟩ := h
  have hne : ∀ i, m.O i ∨ m.DB i ∨ rm.O i → i ≠ g := fun i hi e => by
    have := hx i hi
    rw [e, hX] at this
    cases this
  refine ⟨m, rm, e1, e2, hi.keepsD k (fun i hi => hne i (.inl hi)) (fun i hi => hne i (.inr (.inl hi))), hr.keeps k (fun i hi => hne i (.inr (.inr hi))), ha, fun i hi => ?_, ho, hk.trans k (fun _ _ f => f) (fun i hi f => by
    have : i = g := f
    omega), fun i o1 h1 => ?_⟩
  · unfold addB
    rw [if_neg (hne i hi)]
    exact hx i hi
  · unfold addB at h1
    split at h1
    · rename_i e
      subst e
      cases h1
      exact hb
    · rename_i e
      exact k.obj (hl i o1 h1) (fun f => e f)
/-- One more block is another's. -/
theorem HalfAt.more (h : HalfAt w0 X b rb s t w) {g : Nat} {o : Obj} (hg : w.heap.size ≤ g) (k : Keeps NoB w w') (hb : w'.heap[g]? = some o) : HalfAt w0 (addB X g o) b rb s t w' := by
  obtain ⟨m, rm, e1, e2, hi, hr, ha, hx, ho, hk, hl⟩ := h
  refine ⟨m, rm, e1, e2, hi.kept k, hr.kept k, ha, fun i hi2 => ?_, ho, hk.then k, fun i o1 h1 => ?_⟩
  · unfold addB
    rw [if_neg (fun e => ?_)]
    · exact hx i hi2
    · subst e
      rcases hi2 with h1 | h1 | h1
      · have := FsMem.lt hi _ h1; omega
      · have := hi.datLt h1; omega
      · have := RMem.lt hr _ h1; omega
  · unfold addB at h1
    split at h1
    · rename_i e
      subst e
      cases h1
      exact hb
    · exact k.obj (hl i o1 h1) (fun f => f)
theorem HalfAt.less (h : HalfAt w0 X b rb s t w) {Y : Nat → Option Obj} (hY : ∀ i o, Y i = some o → X i = some o) : HalfAt w0 Y b rb s t w := by
  obtain ⟨m, rm, e1, e2, hi, hr, ha, hx, ho, hk, hl⟩ := h
  refine ⟨m, rm, e1, e2, hi, hr, ha, fun i h1 => ?_, ho, hk, fun i o h1 => hl i o (hY i o h1)⟩
  cases hy : Y i with
  | none => rfl
  | some o =>
    have h2 := hY i o hy
    rw [hx i h1] at h2
    cases h2
/-- An operation of the program. -/
theorem HalfAt.op1k {w1 : World} {P : Program} {f : FuncId} {args : Array Value} {r : Ending → Prop} (h : HalfAt w0 X b rb s t w1) (kw : Keeps NoB w1 w) (hc : ∀ m : FsMem, m.b = b → IsFS w m s → (∀ k, m.O k → w0.heap.size ≤ k ∧ k < w1.heap.size) → Calls P f args w fun e w' => r e ∧ FsTo w m s' w') :
    Calls P f args w fun e w' => r e ∧ HalfAt w0 X b rb s' t w' := by
  obtain ⟨m, rm, e1, e2, hi0, hr0, ha, hx, ho, hk0, hl0⟩ := h
  have hi := hi0.kept kw
  have hr := hr0.kept kw
  have hk := hk0.then kw
  have hl : ∀ k o, X k = some o → w.heap[k]? = some o := fun i o hi => kw.obj (hl0 i o hi) (fun f => f)
  refine (hc m e1 hi (fun k hk => ⟨ho k (.inl hk), FsMem.lt hi0 k hk⟩)).mono fun e w' ⟨he, m', hb, hi', hg, hk'⟩ => ⟨he, m', rm, hb.trans e1, e2, hi', hr.keeps hk' (fun i h1 h2 => ha i h2 h1), fun k h1 h2 => ?_, fun k h1 => ?_, fun k h1 => ?_, hk.trans hk' (fun _ _ f => f) (fun i hi f => absurd (ho i (.inl f)) (by omega)), fun i o hX => hk'.obj (hl i o hX) (fun f => by
    rw [hx i (.inl f)] at hX
    cases hX)⟩
  · rcases hg.1 k h1 with h3 | h3
    · exact ha k h3 h2
    · have := RMem.lt hr k h2; omega
  · have fresh : w.heap.size ≤ k → X k = none := fun h3 => by
      cases hX : X k with
      | none => rfl
      | some o =>
        have := (Array.getElem?_eq_some_iff.1 (hl k o hX)).1
        omega
    rcases h1 with h1 | h1 | h1
    · rcases hg.1 k h1 with h3 | h3
      · exact hx k (.inl h3)
      · exact fresh h3
    · rcases hg.2 k h1 with h3 | h3
      · exact hx k (.inr (.inl h3))
      · exact fresh h3
    · exact hx k (.inr (.inr h1))
  · rcases h1 with h1 | h1
    · rcases hg.1 k h1 with h3 | h3
      · exact ho k (.inl h3)
      · exact Nat.le_trans hk.size h3
    · exact ho k (.inr h1)
theorem HalfAt.op1 {P : Program} {f : FuncId} {args : Array Value} {r : Ending → Prop} (h : HalfAt w0 X b rb s t w) (hc : ∀ m : FsMem, m.b = b → IsFS w m s → (∀ k, m.O k → w0.heap.size ≤ k) → Calls P f args w fun e w' => r e ∧ FsTo w m s' w') :
    Calls P f args w fun e w' => r e ∧ HalfAt w0 X b rb s' t w' := h.op1k (Keeps.refl NoB w) fun m hb hi ho => hc m hb hi fun k hk => (ho k hk).1
/-- An operation of the document. -/
theorem HalfAt.op2 {P : Program} {f : FuncId} {args : Array Value} {r : Ending → Prop} (h : HalfAt w0 X b rb s t w) (hc : ∀ m : RMem, m.b = rb → IsRS w m t → (∀ k, m.O k → w0.heap.size ≤ k) → Calls P f args w fun e w' => r e ∧ RsTo w m t' w') :
    Calls P f args w fun e w' => r e ∧ HalfAt w0 X b rb s t' w' := by
  obtain ⟨m, rm, e1, e2, hi, hr, ha, hx, ho, hk, hl⟩ := h
  refine (hc rm e2 hr (fun k hk => ho k (.inr hk))).mono fun e w' ⟨he, rm', hb, hr', hg, hk'⟩ => ⟨he, m, rm', e1, hb.trans e2, hi.keeps hk' (fun i h1 h2 => ha i h1 h2) (RMem.notU8 hr), hr', fun k h1 h2 => ?_, fun k h1 => ?_, fun k h1 => ?_, hk.trans hk' (fun _ _ f => f) (fun i hi f => absurd (ho i (.inr f)) (by omega)), fun i o hX => hk'.obj (hl i o hX) (fun f => by
    rw [hx i (.inr (.inr f))] at hX
    cases hX)⟩
  · rcases hg k h2 with h3 | h3
    · exact ha k h1 h3
    · have := FsMem.lt hi k h1; omega
  · rcases h1 with h1 | h1 | h1
    · exact hx k (.inl h1)
    · exact hx k (.inr (.inl h1))
    · rcases hg k h1 with h3 | h3
      · exact hx k (.inr (.inr h3))
      · cases hX : X k with
        | none => rfl
        | some o =>
          have := (Array.getElem?_eq_some_iff.1 (hl k o hX)).1
          omega
  · rcases h1 with h1 | h1
    · exact ho k (.inl h1)
    · rcases hg k h1 with h3 | h3
      · exact ho k (.inr h3)
      · exact Nat.le_trans hk.size h3
/-- Both are made. -/
theorem HalfAt.mk' {w1 w2 : World} {m : FsMem} {rm : RMem} (k0 : Keeps NoB w0 w) (hi : IsFS w1 m s) (ho : ∀ k, m.O k → w.heap.size ≤ k) (k1 : Keeps NoB w w1) (hr : IsRS w2 rm t) (ho2 : ∀ k, rm.O k → w1.heap.size ≤ k) (k2 : Keeps NoB w1 w2) : HalfAt w0 noX m.b rm.b s t w2 :=
  ⟨m, rm, rfl, rfl, hi.kept k2, hr, fun k h1 h2 => by
    have := FsMem.lt hi k h1
    have := ho2 k h2
    omega, fun _ _ => rfl, fun k hk => by
    have h1 := k0.size
    have h2 := k1.size
    rcases hk with hk | hk
    · have := ho k hk; omega
    · have := ho2 k hk; omega, (k0.then k1).then k2, fun i o hX => by cases hX⟩
end
end Go.Proofs.YtdjamijbhaplgaaGreat
namespace Go.Proofs.YtdjamijbhaplgaaGreat
open Go.RowKit Go.Maps Go.Lib

set_option maxHeartbeats 4000000 in
set_option maxRecDepth 100000 in
theorem rtorn_any (w : World) (dir n : Int) (A : Option Addr) (c : Nat) (l : List TornS) (hl : l.length ≤ 4611686018427387904) (h : TRd w A l) :
    Calls Tryz.prog 35 #[.agg #[.int .i64 dir, .slice A l.length c], .int .i64 n] w fun e w' => e = .returned (.agg (tornCells (tornOf l n)).toArray) ∧ Keeps NoB w w' := by
  have H := Sd.mk h
  clear h
  go_enter Tryz.func35, Tryz.ntmps35
  go_wp2_with fail
  go_loopg [5] l.length (fun gk i wr => ∃ j : Nat, gk + j = l.length ∧ i = .int .i64 j ∧ Sd (∀ t ∈ l.take j, t.file ≠ n) ∧ Sd (wr.heap[w.heap.size]? = some (.cells #[.int .i64 dir, .slice A l.length c] 36 (0, 0))) ∧
    Sd (wr.heap[w.heap.size + 1]? = some (.cells #[.int .i64 0, .int .i64 0, .int .i64 0] 94 (0, 0))) ∧ Sd (Keeps NoB w wr))
  case atStart =>
    refine ⟨0, by omega, rfl, ⟨by simp⟩, ⟨?_⟩, ⟨?_⟩, ⟨?_⟩⟩
    · exact ((Keeps.refl NoB (w.alloc (.cells #[.int .i64 dir, .slice A l.length c] 36))).alloc _).obj (heap_alloc_new w _) (fun f => f)
    · have := heap_alloc_new (w.alloc (.cells #[.int .i64 dir, .slice A l.length c] 36)) (.cells #[.int .i64 0, .int .i64 0, .int .i64 0] 94)
      simpa using this
    · exact ((Keeps.refl NoB w).alloc _).alloc _
  case round =>
    obtain ⟨j, hj, rfl, hno, HW, HZ, HK⟩ := hrel
    have w1 : wr.cell? ⟨w.heap.size, 1, none⟩ = some (.slice A l.length c) := blk_cell HW.o 1
    have hz0 := blk_cell HZ.o 0
    have hz1 := blk_cell HZ.o 1
    have hz2 := blk_cell HZ.o 2
    have hf0 := blk_frozen HZ.o 0
    have hf1 := blk_frozen HZ.o 1
    have hf2 := blk_frozen HZ.o 2
    by_cases hlt : j < l.length
    · have hq : (j : Int) < (l.length : Int) := by omega
      have hq0 : (0 : Int) ≤ (j : Int) := by omega
      obtain ⟨b1, o1, rfl, hc0, hc1, hc2⟩ := H.o.kept HK.o j hlt
      have htk : l.take (j + 1) = l.take j ++ [l[j]] := List.take_succ_eq_append_getElem hlt
      have hfo : l[j].file = n → tornOf l n = l[j] := tornOf_take hlt hno.o
      generalize l[j] = t at *
      obtain ⟨tf, tw, tb⟩ := t
      dsimp only at hc0 hc1 hc2 hfo
      have HTK := Sd.mk htk
      have HFO := Sd.mk hfo
      clear htk hfo
      by_cases hf : tf = n
      · subst hf
        go_wp2_with fail
        have hb4 := blk_set (blk_set (blk_set HZ.o 0 (.int .i64 tf)) 1 (.int .i64 tw)) 2 (.int .i64 tb)
        refine bodyPost_ret (results_cell_row rfl _ _ (w.heap.size + 1) _ _ _ _ rfl hb4 Tryz.underlying94 rfl (by kernel_rfl)) rfl ?_
        rw [HFO.o (by first | rfl | trivial)]
        exact ⟨rfl, ((HK.o.setF _ _ _ (by omega)).setF _ _ _ (by omega)).setF _ _ _ (by omega)⟩
      · have hq2 : (tf == n) = false := by simpa using hf
        go_wp2_with fail
        go_roundg (gk - 1)
        case measure => omega
        case rel =>
          refine ⟨j + 1, by omega, by go_num, ⟨fun t ht => ?_⟩, HW, HZ, HK⟩
          rw [HTK.o] at ht
          rcases List.mem_append.1 ht with ht | ht
          · exact hno.o t ht
          · simp at ht; subst ht; exact hf
    · have hq : ¬ (j : Int) < (l.length : Int) := by omega
      have hE : Sd (tornOf l n = ⟨0, 0, 0⟩) := ⟨tornOf_none (by have := hno.o; rwa [List.take_of_length_le (by omega)] at this)⟩
      go_wp2_with fail
      have hb4 := blk_set (blk_set (blk_set HZ.o 0 (.int .i64 0)) 1 (.int .i64 0)) 2 (.int .i64 0)
      refine bodyPost_ret (results_cell_row rfl _ _ (w.heap.size + 1) _ _ _ _ rfl hb4 Tryz.underlying94 rfl (by kernel_rfl)) rfl ?_
      rw [hE.o]
      exact ⟨rfl, ((HK.o.setF _ _ _ (by omega)).setF _ _ _ (by omega)).setF _ _ _ (by omega)⟩
end Go.Proofs.YtdjamijbhaplgaaGreat
namespace Go.Proofs.YtdjamijbhaplgaaGreat
open Go.RowKit Go.Maps Go.Lib

/-- The directory behind the first k waiting changes. -/
def dirTo (s : FSt) (k : Nat) : Dir := movedAll s.S (s.M.take k)
theorem dirTo_succ (s : FSt) (k : Nat) (hk : k < s.M.length) : dirTo s (k + 1) = moved (dirTo s k) s.M[k] := movedAll_succ s.S s.M k hk
theorem dirTo_all (s : FSt) (k : Nat) (hk : s.M.length ≤ k) : dirTo s k = dirTo s s.M.length := by unfold dirTo; rw [List.take_of_length_le hk, List.take_of_length_le (Nat.le_refl _)]
theorem dirTo_good {s : FSt} (ok : FsOk s) (k : Nat) : GoodDir s.F.length (dirTo s k) := (ok.path.take k).good ok.dirS
theorem dirTo_kind {s : FSt} (ok : FsOk s) (k : Nat) (hk : k < s.M.length) : (s.M[k]).kind = 99 ∨ (s.M[k]).kind = 100 ∨ (s.M[k]).kind = 114 := by
  rcases PathOk.at_ k hk ok.path with h | h
  · exact .inl h.1
  · exact .inr h
/-- The files of which the first k have crashed. -/
def crF (s : FSt) (l : List TornS) (k : Nat) : List FileS := s.F.mapIdx fun j x => if j < k then x.crash (tornOf l ((j + 1 : Nat) : Int)) else x
theorem crF_zero (s : FSt) (l : List TornS) : crF s l 0 = s.F := by
  unfold crF
  apply List.ext_getElem?
  intro i
  rw [List.getElem?_mapIdx]
  cases s.F[i]? <;> simp
theorem crF_all (s : FSt) (l : List TornS) (dir : Int) (k : Nat) (hk : s.F.length ≤ k) : crF s l k = (s.crash dir l).F := by
  unfold crF
  show _ = s.F.mapIdx (fun i x => x.crash (tornOf l ((i + 1 : Nat) : Int)))
  apply List.ext_getElem?
  intro i
  rw [List.getElem?_mapIdx, List.getElem?_mapIdx]
  by_cases hi : i < s.F.length
  · rw [List.getElem?_eq_getElem hi]; simp; omega
  · rw [List.getElem?_eq_none (by omega)]; rfl
theorem crF_len (s : FSt) (l : List TornS) (k : Nat) : (crF s l k).length = s.F.length := by unfold crF; simp
theorem crF_at (s : FSt) (l : List TornS) (k : Nat) (hk : k < s.F.length) : (crF s l k).getD k noFile = s.file (k + 1) := by
  unfold crF FSt.file
  rw [List.getD_eq_getElem?_getD, List.getElem?_mapIdx, List.getD_eq_getElem?_getD]
  simp
theorem crF_succ (s : FSt) (l : List TornS) (k : Nat) (hk : k < s.F.length) : (crF s l k).set k ((s.file (k + 1)).crash (tornOf l ((k + 1 : Nat) : Int))) = crF s l (k + 1) := by
  apply List.ext_getElem?
  intro i
  by_cases hik : k = i
  · subst hik
    rw [List.getElem?_set_self (by rw [crF_len]; exact hk)]
    unfold crF FSt.file
    rw [List.getElem?_mapIdx, List.getD_eq_getElem?_getD, show k + 1 - 1 = k by omega, List.getElem?_eq_getElem hk]
    simp
  · rw [List.getElem?_set_ne hik]
    unfold crF
    rw [List.getElem?_mapIdx, List.getElem?_mapIdx]
    congr 1
    funext x
    by_cases h1 : i < k
    · rw [if_pos h1, if_pos (by omega)]
    · rw [if_neg h1, if_neg (by omega)]
/-- The state behind the statement on the directory. -/
def crD (s : FSt) (dir : Int) : FSt := { s with D := dirTo s dir.toNat, S := dirTo s dir.toNat, M := [] }
theorem crash_eq (s : FSt) (dir : Int) (l : List TornS) (k : Nat) (hk : s.F.length ≤ k) : s.crash dir l = { crD s dir with F := crF s l k, left := -1, off := false } := by
  rw [crF_all s l dir k hk]
  rfl
/-- The rows of names made anew. -/
theorem rs_dirs {w wx wy wz : World} {m : RMem} {s : FSt} {d : Dir} {A1 A2 : Option Addr} {q1 q2 : Nat} (h : IsRS w m s) (hx : Keeps NoB w wx) (h1 : EntV wx (.slice A1 d.length q1) d) (f1 : Fresh w (.slice A1 d.length q1))
    (hy : Keeps NoB (wx.setCell ⟨m.b, 1, none⟩ (.slice A1 d.length q1)) wy) (h2 : EntV wy (.slice A2 d.length q2) d) (f2 : Fresh (wx.setCell ⟨m.b, 1, none⟩ (.slice A1 d.length q1)) (.slice A2 d.length q2))
    (hz : wz = (wy.setCell ⟨m.b, 2, none⟩ (.slice A2 d.length q2)).setCell ⟨m.b, 3, none⟩ (.slice none 0 0)) : RsTo w m { s with D := d, S := d, M := [] } wz := by
  subst hz
  have hxb := h.kept hx
  have k1 : Keeps (OneB m.b) wx (wx.setCell ⟨m.b, 1, none⟩ (.slice A1 d.length q1)) := (Keeps.refl (OneB m.b) wx).setCell ⟨m.b, 1, none⟩ _ (fun _ => rfl)
  have k2 : Keeps (OneB m.b) wy ((wy.setCell ⟨m.b, 2, none⟩ (.slice A2 d.length q2)).setCell ⟨m.b, 3, none⟩ (.slice none 0 0)) := ((Keeps.refl (OneB m.b) wy).setCell ⟨m.b, 2, none⟩ _ (fun _ => rfl)).setCell ⟨m.b, 3, none⟩ _ (fun _ => rfl)
  have kxy : Keeps (OneB m.b) wx wy := k1.trans hy (fun _ _ f => f) (fun _ _ f => f.elim)
  have kall : Keeps (OneB m.b) wx ((wy.setCell ⟨m.b, 2, none⟩ (.slice A2 d.length q2)).setCell ⟨m.b, 3, none⟩ (.slice none 0 0)) := kxy.trans k2 (fun _ _ f => f) (fun _ _ f => f)
  obtain ⟨p1, p2, p3, p4⟩ := hxb.keepsK kall (fun i f => .inl (by have : i = m.b := f; rw [this]; exact hxb.kinds.1))
  have hb1 : (wx.setCell ⟨m.b, 1, none⟩ (.slice A1 d.length q1)).heap[m.b]? = _ := blk_set hxb.blk 1 _
  have hbl := RMem.lt h _ (.inl rfl)
  have hsx := hx.size
  have hs1 := k1.size
  refine ⟨⟨m.b, m.fs, m.fv, .slice A1 d.length q1, .slice A2 d.length q2, .slice none 0 0⟩, rfl, ⟨(blk_set (blk_set (hy.obj hb1 (fun f => f)) 2 _) 3 _).trans rfl, h.len, p1, p2, ?_, ?_, rmovV_nil _, h.apart, fun k hk1 hk2 => ?_⟩, fun i hi => ?_, hx.trans kall (fun _ _ f => f.elim) (fun i _ f => .inl f)⟩
  · exact OwnW.keeps h1 kall (fun i hi f => by
      have := f1 i hi
      have : i = m.b := f
      omega)
  · exact OwnW.keeps h2 k2 (fun i hi f => by
      have := f2 i hi
      have : i = m.b := f
      omega)
  · have := f2 k hk2
    have := OwnW.lt h1 hk1
    omega
  · rcases hi with h3 | h3 | h3 | h3 | h3 | h3
    · exact .inl (.inl h3)
    · exact .inl (.inr (.inl h3))
    · exact .inr (f1 i h3)
    · exact .inr (by have := f2 i h3; omega)
    · simp [Value.ownBlock] at h3
    · exact .inl (.inr (.inr (.inr (.inr (.inr h3)))))
end Go.Proofs.YtdjamijbhaplgaaGreat
