/- symtab: Number, Symbol, Len, All; frame, Bytes. -/
import Derived.Test.YtdjamijbhaplgaaGreatGkaz
import Derived.Test.YtdjamijbhaplgaaGreatGkag
namespace Go.Proofs.YtdjamijbhaplgaaGreat
open Go.RowKit Go.Maps

set_option maxHeartbeats 1000000 in
theorem tnumber_any (w : World) (base b mb : Nat) (A : Option Addr) (c : Nat) (l : List (List UInt8)) (h : IsT w base b mb A c l) (S : ByteArray) (hS : S.size ≤ 9223372036854775807) :
    Calls Tryz.prog 58 #[.pointer (some ⟨b, 0, none⟩), .string S] w fun e w' => e = .returned (.tuple #[.int .i64 (numL l S.data.toList : Nat), .bool (decide (S.data.toList ∈ l))]) ∧ w = w' := by
  have h1 : w.cell? ⟨b, 1, none⟩ = some (.map (some mb)) := blk_cell h.blk 1
  have hrun := h.map.look S hS
  generalize numL l S.data.toList = n at *
  generalize decide (S.data.toList ∈ l) = d at *
  clear h
  go_enter Tryz.func58, Tryz.ntmps58
  go_wp2
  go_ret2
  exact ⟨rfl, rfl⟩
set_option maxHeartbeats 1000000 in
theorem tlen_any (w : World) (base b mb : Nat) (A : Option Addr) (c : Nat) (l : List (List UInt8)) (h : IsT w base b mb A c l) :
    Calls Tryz.prog 25 #[.pointer (some ⟨b, 0, none⟩)] w fun e w' => e = .returned (.int .i64 (l.length : Nat)) ∧ w = w' := by
  have h0 : w.cell? ⟨b, 0, none⟩ = some (.slice A l.length c) := blk_cell h.blk 0
  clear h
  go_enter Tryz.func25, Tryz.ntmps25
  go_wp2
  go_ret
  exact ⟨rfl, rfl⟩
/-- A number's symbol, or none. -/
def symAt (l : List (List UInt8)) (n : Int) : List UInt8 × Int := if 0 ≤ n ∧ n < (l.length : Int) then (l.getD n.toNat [], 0) else ([], 50)
set_option maxHeartbeats 1000000 in
theorem tsymbol_any (w : World) (base b mb : Nat) (A : Option Addr) (c : Nat) (l : List (List UInt8)) (h : IsT w base b mb A c l) (n : Int) :
    Calls Tryz.prog 28 #[.pointer (some ⟨b, 0, none⟩), .int .i64 n] w fun e w' => e = .returned (.tuple #[.string (sOf (symAt l n).1), .int .i64 (symAt l n).2]) ∧ w = w' := by
  have h0 : w.cell? ⟨b, 0, none⟩ = some (.slice A l.length c) := blk_cell h.blk 0
  by_cases hn : n < 0
  · have hq : decide (n < 0) = true := by simpa using hn
    have hf : Sd (symAt l n = ([], 50)) := ⟨by unfold symAt; rw [if_neg (by omega)]⟩
    clear h
    go_enter Tryz.func28, Tryz.ntmps28
    go_wp2
    go_ret2
    exact ⟨by rw [hf.o]; rfl, rfl⟩
  obtain ⟨k, rfl⟩ : ∃ k : Nat, n = k := ⟨n.toNat, by omega⟩
  have hq : decide ((k : Int) < 0) = false := by simp
  by_cases hk : l.length ≤ k
  · have hq2 : decide (l.length ≤ k) = true := by simpa using hk
    have hf : Sd (symAt l (k : Int) = ([], 50)) := ⟨by unfold symAt; rw [if_neg (by omega)]⟩
    clear h
    go_enter Tryz.func28, Tryz.ntmps28
    go_wp2
    go_ret2
    exact ⟨by rw [hf.o]; rfl, rfl⟩
  · have hq2 : decide (l.length ≤ k) = false := by simpa using hk
    have hlt : k < l.length := by omega
    have hf : Sd (symAt l (k : Int) = (l[k], 0)) := ⟨by unfold symAt; rw [if_pos (by omega)]; simp [List.getD, hlt]⟩
    obtain ⟨b1, o1, rfl, hc⟩ := h.own.vrd.2.2.2.2.2 k (by rw [strs_len]; exact hlt)
    have hc2 : w.cell? ⟨b1, o1 + k, none⟩ = some (.string (sOf l[k])) := by rw [hc]; simp [strs]
    have i1 : (k : Int) < (l.length : Int) := by omega
    clear h hc
    generalize l[k] = x at *
    go_enter Tryz.func28, Tryz.ntmps28
    go_wp2
    go_ret2
    exact ⟨by rw [hf.o]; rfl, rfl⟩

theorem eqlStrs (w : World) (a : Option Addr) (n c n' c' : Nat) : (binOp .eql 33 (.slice a n c) (.slice none n' c')).run Tryz.prog w = .ok (.bool a.isNone) w :=
  Lib.run_eql_slice_nil w _ _ a n c n' c' Tryz.underlying33
set_option maxHeartbeats 1000000 in
theorem sclone_any (w : World) (A : Option Addr) (c : Nat) (l : List (List UInt8)) (h : VRd w A (strs l)) (hA : A = none → l = []) (hl : l.length ≤ 8796093022208) :
    Calls Tryz.prog 95 #[.slice A l.length c] w fun e w' => ∃ A' c', e = .returned (.slice A' l.length c') ∧ OwnV w' 9 (.slice A' l.length c') (strs l) ∧ Fresh w (.slice A' l.length c') ∧ Keeps NoB w w' := by
  have q := eqlStrs
  have H := Sd.mk h
  have hll := strs_len l
  have HLL := Sd.mk hll
  clear h hll
  cases A with
  | none =>
    have hl0 := hA rfl
    subst hl0
    clear hA
    go_enter Tryz.func95, Tryz.ntmps95
    go_wp2
    go_ret
    exact ⟨none, 0, rfl, ⟨by simp [strs], .inl ⟨rfl, rfl⟩⟩, (fun k hk => by simp [Value.ownBlock] at hk), Keeps.refl _ _⟩
  | some a =>
    clear hA
    go_enter Tryz.func95, Tryz.ntmps95
    go_wp2_with (at_builtin; go_must (refine app_lit0 rfl _ _ 33 9 (.string ⟨#[]⟩) 16 rfl Tryz.underlying33 infoStr rfl w.heap.size rfl rfl (some a) l.length c (strs l) rfl HLL.o H.o (fun u hu => by obtain ⟨x, _, rfl⟩ := List.mem_map.1 hu; rfl) (by omega) (by omega) ?_); intro A4 c4 w4 HO4 HK4 HF4; have HP4 := Sd.mk (And.intro HO4 (And.intro HF4 HK4)); clear HO4 HK4 HF4)
    go_ret
    exact ⟨A4, c4, rfl, HP4.o⟩
set_option maxHeartbeats 1000000 in
theorem tall_any (w : World) (base b mb : Nat) (A : Option Addr) (c : Nat) (l : List (List UInt8)) (h : IsT w base b mb A c l) (hl : l.length ≤ 8796093022208) :
    Calls Tryz.prog 61 #[.pointer (some ⟨b, 0, none⟩)] w fun e w' => ∃ A' c', e = .returned (.slice A' l.length c') ∧ OwnV w' 9 (.slice A' l.length c') (strs l) ∧ Fresh w (.slice A' l.length c') ∧ Keeps NoB w w' := by
  have h0 : w.cell? ⟨b, 0, none⟩ = some (.slice A l.length c) := blk_cell h.blk 0
  have hv := h.own.vrd
  have hA : A = none → l = [] := fun e => by
    have h1 := hv.2.2.2.1 e
    have h2 := hv.2.1
    exact List.eq_nil_of_length_eq_zero (by omega)
  have HC := Sd.mk (sclone_any w A c l hv.2.2.2.2.2 hA hl)
  clear h hv hA
  go_enter Tryz.func61, Tryz.ntmps61
  go_wp2_with fail
  refine HC.o.mono ?_
  clear HC
  rintro e w2 ⟨A2, c2, rfl, h2⟩
  have HP := Sd.mk h2
  clear h2
  go_wp2
  go_ret
  exact ⟨A2, c2, rfl, HP.o⟩

set_option maxHeartbeats 2000000 in
theorem tframe_any (w : World) (S : ByteArray) (hS : S.size ≤ 1000000) : Calls Tryz.prog 68 #[.string S] w fun e w' => ∃ A c, e = .returned (.slice A (frameL S.data.toList).length c) ∧ OwnV w' 5 (.slice A (frameL S.data.toList).length c) (bvs (frameL S.data.toList)) ∧ Fresh w (.slice A (frameL S.data.toList).length c) ∧ Keeps NoB w w' := by
  have hsz : S.data.toList.length = S.size := by rw [Array.length_toList]; rfl
  have hp10 := put1_len10 S.size (by omega)
  have hpt : putT [S.data.toList] = put1T S.data.toList := by simp [putT]
  have hpl : (put1T S.data.toList).length ≤ 1000010 := by unfold put1T; rw [List.length_append, hsz]; omega
  have HPT : Sd (Calls Tryz.prog 99 #[.slice none 0 0, .slice (some ⟨w.heap.size, 0, none⟩) 1 1] (w.alloc (.cells #[.string S] 9)) fun e w' => ∃ A' c', e = .returned (.slice A' (put1T S.data.toList).length c') ∧ Bts w' (.slice A' (put1T S.data.toList).length c') (put1T S.data.toList) ∧ Keeps NoB w w') := ⟨by
    have hc := puttext_any (w.alloc (.cells #[.string S] 9)) none 0 [] (Own.nil _ 0).v [S.data.toList] (some ⟨w.heap.size, 0, none⟩) 1 (by
      have := one_vrd (w := w) (u := .string S) (e := 9)
      simpa [strs, sOf_eq] using this) (by intro _ b o s _ f; simp [ownB, Value.ownBlock] at f) (by simp [sumLen]; omega)
    rw [List.nil_append, hpt] at hc
    refine hc.mono ?_
    rintro e w' ⟨A', c', he, hO, hK, _⟩
    exact ⟨A', c', he, hO.bts, (hK.mono (fun i _ f => by simp [ownB, Value.ownBlock] at f)).undoalloc⟩⟩
  obtain ⟨X, hX⟩ : ∃ X, X = put1T S.data.toList := ⟨_, rfl⟩
  have hfr : frameL S.data.toList = sealL X := by rw [hX]; rfl
  rw [← hX] at HPT hpl
  rw [hfr]
  clear hX hfr hpt hp10 hsz
  go_enter Tryz.func68, Tryz.ntmps68
  go_wp2_with fail
  refine HPT.o.mono ?_
  clear HPT
  rintro e w1 ⟨A1, c1, rfl, hB1, hK1⟩
  have HB1 := Sd.mk hB1
  have HK1 := Sd.mk hK1
  clear hB1 hK1
  have hc := seal_any _ _ 1 [X] (LRd.one HB1.o 49) (by simp)
  rw [show [X].flatten = X by simp] at hc
  have HC := Sd.mk hc
  clear hc
  go_wp2_with fail
  refine HC.o.mono ?_
  clear HC
  rintro e w2 (⟨hb, _⟩ | ⟨_, A2, c2, rfl, hO, hF, hK⟩)
  · omega
  obtain ⟨Y, hY⟩ : ∃ Y, Y = sealL X := ⟨_, rfl⟩
  have HY := Sd.mk hY
  rw [← hY] at hO hF ⊢
  clear hY
  have HP : Sd (OwnV w2 5 (.slice A2 Y.length c2) (bvs Y) ∧ Fresh w (.slice A2 Y.length c2) ∧ Keeps NoB w w2) := ⟨hO, fun k hk => by have := hF k hk; have := HK1.o.size; simp at *; omega, HK1.o.then hK.undoalloc⟩
  clear hO hF hK
  go_wp2
  go_ret
  rw [← HY.o]
  exact ⟨A2, c2, rfl, HP.o⟩
end Go.Proofs.YtdjamijbhaplgaaGreat
namespace Go.Proofs.YtdjamijbhaplgaaGreat
open Go.RowKit Go.Maps

theorem VRd.drop {w : World} {A : Option Addr} {vs : List Value} (h : VRd w A vs) (c lo : Nat) (hc : vs.length ≤ c) : VRd w (cutA A c lo) (vs.drop lo) := by
  intro i hi
  rw [List.length_drop] at hi
  obtain ⟨b, o, rfl, hcell⟩ := h (lo + i) (by omega)
  have hne : c ≠ lo := by omega
  refine ⟨b, o + lo, by simp [cutA, hne, add_lit], ?_⟩
  rw [show o + lo + i = o + (lo + i) by omega, hcell]
  simp
theorem strs_drop (l : List (List UInt8)) (n : Nat) : (strs l).drop n = strs (l.drop n) := by simp [strs, List.map_drop]
theorem frameL_len (s : List UInt8) (h : s.length ≤ 64) : (frameL s).length ≤ 73 := by
  unfold frameL
  rw [sealL_len]
  unfold put1T
  rw [put1_lt _ (by omega)]
  simp; omega
theorem flatMap_snoc {α β : Type} (f : α → List β) (l : List α) (x : α) : (l ++ [x]).flatMap f = l.flatMap f ++ f x := by simp

set_option maxHeartbeats 4000000 in
set_option maxRecDepth 100000 in
theorem tbytes_any (w : World) (base b mb : Nat) (A : Option Addr) (c : Nat) (l : List (List UInt8)) (h : IsT w base b mb A c l) (hl : l.length ≤ 70000) :
    Calls Tryz.prog 62 #[.pointer (some ⟨b, 0, none⟩)] w fun e w' => ∃ A' c', e = .returned (.slice A' (bytesL l).length c') ∧ OwnV w' 5 (.slice A' (bytesL l).length c') (bvs (bytesL l)) ∧ Fresh w (.slice A' (bytesL l).length c') ∧ Keeps NoB w w' := by
  have H := Sd.mk h
  have hne : 1 ≤ l.length := List.length_pos_iff.2 h.ne
  have hmin : min (1 : Int) (l.length : Int) = 1 := by omega
  have HC := Sd.mk (tall_any w base b mb A c l h (by omega))
  clear h
  obtain ⟨i0, hi, hz0, hz1, hz2⟩ := info_parts infoStr
  go_enter Tryz.func62, Tryz.ntmps62
  go_wp2_with fail
  refine HC.o.mono ?_
  clear HC
  rintro e w2 ⟨A2, c2, rfl, hO, hF, hK⟩
  have hcap : l.length ≤ c2 := by have := hO.vrd; omega
  have hsl : ∀ W : World, (Instr.slice 33 (.slice A2 l.length c2) (some (.int .i64 1)) none none).run Tryz.prog W = .ok (.slice (cutA A2 c2 1) (l.length - 1) (c2 - 1)) W := fun W =>
    slice_run_l 33 9 .i64 Tryz.underlying33 hi hz1 A2 l.length c2 1 (by omega) W _ rfl
  obtain ⟨ss, hss⟩ : ∃ ss, ss = l.drop 1 := ⟨_, rfl⟩
  have hsn : l.length - 1 = ss.length := by rw [hss, List.length_drop]
  rw [hsn] at hsl
  have HV : Sd (VRd w2 (cutA A2 c2 1) (strs ss)) := ⟨by
    have := hO.vrd.2.2.2.2.2.drop c2 1 (by rw [strs_len]; exact hcap)
    rwa [strs_drop, ← hss] at this⟩
  have HSZ : Sd (∀ s ∈ ss, s.length ≤ 64) := ⟨fun s hs => H.o.sz s (List.mem_of_mem_drop (hss ▸ hs))⟩
  have HBY : Sd (bytesL l = ss.flatMap frameL) := ⟨by rw [hss]; rfl⟩
  have HK2 := Sd.mk hK
  have HT2 := Sd.mk (H.o.kept hK)
  have hsl2 : ss.length ≤ 70000 := by omega
  clear hO hF hK hss hi hz0 hz1 hz2 hsn hcap
  go_wp2_with (go_at_call 25; refine (tlen_any _ _ _ _ _ _ _ HT2.o).mono ?_; rintro e w' ⟨rfl, rfl⟩)
  generalize cutA A2 c2 1 = A5 at *
  go_loopg [2, 12] ss.length (fun gk v i wr => ∃ (k c : Nat) (ys : List UInt8) (A : Option Addr), gk + k = ss.length ∧ i = .int .i64 k ∧ v = .slice A ys.length c ∧ ys.length ≤ 73 * k ∧ Sd (ys = (ss.take k).flatMap frameL) ∧ Sd (OwnV wr 5 (.slice A ys.length c) (bvs ys)) ∧ Sd (Keeps NoB w2 wr) ∧ Sd (Fresh w2 (.slice A ys.length c)))
  case atStart => exact ⟨0, 0, [], none, by omega, rfl, rfl, by simp, ⟨by simp⟩, ⟨(Own.nil _ 0).v⟩, ⟨Keeps.refl _ _⟩, ⟨fun k hk => by simp [Value.ownBlock] at hk⟩⟩
  case round =>
    obtain ⟨k, c, ys, A3, hk, rfl, rfl, hyl, HY, HO, HKK, HF⟩ := hrel
    by_cases hlt : k < ss.length
    · have hq1 : (k : Int) < (ss.length : Int) := by omega
      obtain ⟨b1, o1, rfl, hc⟩ := HV.o k (by rw [strs_len]; exact hlt)
      have hc2 : wr.cell? ⟨b1, o1 + k, none⟩ = some (.string (sOf ss[k])) := by rw [HKK.o.cell hc (fun f => f)]; simp [strs]
      have htk : Sd ((ss.take (k + 1)).flatMap frameL = ys ++ frameL ss[k]) := ⟨by rw [List.take_succ_eq_append_getElem hlt, flatMap_snoc, HY.o]⟩
      have hs64 := HSZ.o _ (List.getElem_mem hlt)
      have hfl := frameL_len _ hs64
      clear hc
      generalize ss[k] = s0 at *
      have HC := tframe_any wr (sOf s0) (by rw [sOf_size]; omega)
      rw [show (sOf s0).data.toList = s0 from rfl] at HC
      have HC2 := Sd.mk HC
      obtain ⟨S0, hS0⟩ : ∃ S0, S0 = sOf s0 := ⟨_, rfl⟩
      rw [← hS0] at HC2 hc2
      obtain ⟨X, hX⟩ : ∃ X, X = frameL s0 := ⟨_, rfl⟩
      rw [← hX] at HC2 hfl htk
      clear HC hS0 hX
      go_wp2_with fail
      refine HC2.o.mono ?_
      clear HC2
      rintro e w4 ⟨A4, c4, rfl, hO4, hF4, hK4⟩
      have HO4 := Sd.mk hO4
      have HK4 := Sd.mk hK4
      clear hO4 hF4 hK4
      go_wp2_with (at_builtin; go_must (refine app_any rfl _ _ 49 5 (.int .u8 0) 1 rfl Tryz.underlying49 infoU8' rfl (.slice A3 ys.length c) (bvs ys) rfl (HO.o.kept HK4.o) A4 X.length c4 (bvs X) rfl (bvs_length X) (rd_vrd HO4.o.bts.rd.2.2.2.2.2) (bvs_one X) (by rw [bvs_length]; omega) (by rw [bvs_length]; omega) ?_); intro A6 c6 w6 HO6 HK6 HG6; have HP := Sd.mk (And.intro HO6 (And.intro HK6 HG6)); clear HO6 HK6 HG6)
      go_roundg (gk - 1)
      case measure => omega
      case rel =>
        obtain ⟨HO6, HK6, HG6⟩ := HP.o
        have e1 : (bvs ys).length + X.length = (ys ++ X).length := by rw [bvs_length, List.length_append]
        rw [e1] at HO6 HG6 ⊢
        rw [← bvs_append] at HO6
        have hk4 := HKK.o.then HK4.o
        exact ⟨k + 1, c6, ys ++ X, A6, by omega, by go_num, rfl, by rw [List.length_append]; omega, ⟨htk.o.symm⟩, ⟨HO6⟩, ⟨hk4.fresh HF.o HK6⟩, ⟨HF.o.grew hk4.size HG6⟩⟩
    · have hq1 : ¬ (k : Int) < (ss.length : Int) := by omega
      have hfin : Sd (ys = bytesL l) := ⟨by rw [HY.o, HBY.o, List.take_of_length_le (by omega)]⟩
      go_wp2
      go_ret
      rw [← hfin.o]
      exact ⟨A3, c, rfl, HO.o, (fun k hk => Nat.le_trans HK2.o.size (HF.o k hk)), HK2.o.then HKK.o⟩
end Go.Proofs.YtdjamijbhaplgaaGreat
namespace Go.Proofs.YtdjamijbhaplgaaGreat
open Go.RowKit Go.Maps

/-- What Load leaves. -/
def LoadPost (w : World) (p : List UInt8) (e : Ending) (w' : World) : Prop :=
  Keeps NoB w w' ∧ ((loadL p = none ∧ e = .returned (.tuple #[.pointer none, .int .i64 0, .int .i64 51])) ∨
    (∃ l b mb A c, loadL p = some l ∧ e = .returned (.tuple #[.pointer (some ⟨b, 0, none⟩), .int .i64 ((framesL p).2.1 : Nat), .int .i64 0]) ∧ IsT w' w.heap.size b mb A c l))
theorem text_len (s : RSt) (m : Int) : (s.text m).1.length ≤ s.p.length := by
  unfold RSt.text
  split
  · split
    · simp
    · simp only [List.length_take, List.length_drop]; omega
  · simp
theorem framesGo_small : ∀ (n : Nat) (p : List UInt8) (k : Nat) (acc : List (List UInt8)), (∀ x ∈ acc, x.length ≤ p.length) → ∀ x ∈ (framesGo n p k acc).1, x.length ≤ p.length
  | 0, p, k, acc, h, x, hx => h x hx
  | n + 1, p, k, acc, h, x, hx => by
    unfold framesGo at hx
    split at hx
    · split at hx
      · rename_i h3 h4
        have := openL_ok (p.drop k) h4
        rw [List.length_drop] at this
        refine framesGo_small n p _ _ (fun y hy => ?_) x hx
        rcases List.mem_append.1 hy with hy | hy
        · exact h y hy
        · simp at hy; subst hy; omega
      · exact h x hx
    · exact h x hx
theorem framesL_small (p : List UInt8) : ∀ x ∈ (framesL p).1, x.length ≤ p.length := framesGo_small _ p 0 [] (by simp)
theorem loadGo_len : ∀ (fs acc l : List (List UInt8)), loadGo fs acc = some l → acc.length ≤ 65536 → l.length ≤ 65536
  | [], acc, l, h, ha => by simp [loadGo] at h; subst h; exact ha
  | b :: fs, acc, l, h, ha => by
    unfold loadGo at h
    split at h
    · rename_i hc; exact loadGo_len fs _ l h (by simp; omega)
    · cases h

set_option maxHeartbeats 8000000 in
set_option maxRecDepth 100000 in
theorem tload_any (w : World) (A : Option Addr) (c : Nat) (p : List UInt8) (hb : Bts w (.slice A p.length c) p) (hl : p.length ≤ 67108864) :
    Calls Tryz.prog 29 #[.slice A p.length c] w (LoadPost w p) := by
  have hfs := framesL_small p
  have hfn := framesL_len p
  have HFR := Sd.mk (frames_any w A c p hb (by omega))
  have HLD : Sd (loadL p = loadGo (framesL p).1 [[]]) := ⟨rfl⟩
  obtain ⟨F, hF⟩ : ∃ F, F = framesL p := ⟨_, rfl⟩
  rw [← hF] at hfs hfn HFR HLD
  obtain ⟨fs, at_, er⟩ := F
  dsimp only at hfs hfn HFR HLD
  have HAT : Sd ((framesL p).2.1 = at_) := ⟨by rw [← hF]⟩
  have HFS := Sd.mk hfs
  have hfl : fs.length ≤ 67108864 := by omega
  clear hb hF hfs hfn
  go_enter Tryz.func29, Tryz.ntmps29
  go_wp2_with fail
  refine HFR.o.mono ?_
  clear HFR
  rintro e w2 ⟨A2, c2, rfl, hO, _, hK⟩
  have HL2 := Sd.mk hO.lrd.2
  have HK2 := Sd.mk hK
  clear hO hK
  go_wp2_with fail
  refine (tnew_any w2).mono ?_
  rintro e w3 ⟨b, mb, A3, c3, rfl, hT, hK⟩
  have HT3 := Sd.mk hT
  have HK3 := Sd.mk hK
  clear hT hK
  go_wp2_with fail
  go_loopg [24] fs.length (fun gk i wr => ∃ (k c : Nat) (acc : List (List UInt8)) (A : Option Addr), gk + k = fs.length ∧ i = .int .i64 k ∧ acc.length ≤ 65536 ∧ Sd (loadL p = loadGo (fs.drop k) acc) ∧ Sd (IsT wr w2.heap.size b mb A c acc) ∧ Sd (Keeps NoB w2 wr))
  case atStart => exact ⟨0, c3, [[]], A3, by omega, rfl, by decide, HLD, HT3, HK3⟩
  case round =>
    clear HT3 HK3 HLD
    obtain ⟨k, c4, acc, A4, hk, rfl, hac, HLD, HT, HK⟩ := hrel
    by_cases hlt : k < fs.length
    · have hq1 : (k : Int) < (fs.length : Int) := by omega
      obtain ⟨b1, o1, A5, c5, rfl, hc, hb⟩ := (HL2.o.kept HK.o).at_ k hlt
      have hdrop : fs.drop k = fs[k] :: fs.drop (k + 1) := List.drop_eq_getElem_cons hlt
      have hgo : Sd (loadL p = if (symOf fs[k]).2 = 0 ∧ mayL (symOf fs[k]).1 = true ∧ (symOf fs[k]).1 ∉ acc ∧ acc.length < 65536 then loadGo (fs.drop (k + 1)) (acc ++ [(symOf fs[k]).1]) else none) := ⟨by rw [HLD.o, hdrop, loadGo]⟩
      have hsm := HFS.o _ (List.getElem_mem hlt)
      have HB := Sd.mk hb
      clear hb hdrop
      generalize fs[k] = f0 at *
      have HN := Sd.mk (new_any wr A5 _ c5 f0 HB.o (by omega))
      have htl := text_len ⟨f0, 0, 0, 0⟩ 64
      dsimp only at htl
      obtain ⟨s, hs⟩ : ∃ s, s = (RSt.text ⟨f0, 0, 0, 0⟩ 64).1 := ⟨_, rfl⟩
      obtain ⟨r1, hr1⟩ : ∃ r1, r1 = (RSt.text ⟨f0, 0, 0, 0⟩ 64).2 := ⟨_, rfl⟩
      have hsym : Sd (symOf f0 = (s, r1.done)) := ⟨by rw [hs, hr1]; rfl⟩
      have HTX : Sd (∀ w' b' A' c', IsRd w' b' ⟨f0, 0, 0, 0⟩ A' c' → Calls Tryz.prog 71 #[.pointer (some ⟨b', 0, none⟩), .int .i64 64] w' fun e' w'' => e' = .returned (.string (sOf s)) ∧ IsRd w'' b' r1 A' c' ∧ Keeps (OneB b') w' w'') := ⟨fun w' b' A' c' h => by
        have := text_some w' b' ⟨f0, 0, 0, 0⟩ A' c' h 64 (by decide) (by decide)
        rwa [← hs, ← hr1] at this⟩
      rw [← hs] at htl
      clear hs hr1
      go_wp2_with fail
      refine HN.o.mono ?_
      clear HN hc
      rintro e w5 ⟨b5, A6, c6, rfl, hI, hB, hb5, _⟩
      have HI := Sd.mk hI
      have HK5 := Sd.mk (Keeps.of_below hB NoB)
      have HF5 := Sd.mk hb5
      clear hI hB hb5
      go_wp2_with fail
      refine (HTX.o w5 b5 A6 c6 HI.o).mono ?_
      clear HTX HI
      rintro e w6 ⟨rfl, hI, hK⟩
      have HI6 := Sd.mk hI
      have hK6 : Keeps NoB wr w6 := HK5.o.trans hK (fun _ _ f => f) (fun i hi f => by cases f; have := HF5.o; omega)
      have HK6 := Sd.mk hK6
      have HT6 := Sd.mk (HT.o.kept hK6)
      have h1 : w6.cell? ⟨b, 1, none⟩ = some (.map (some mb)) := blk_cell HT6.o.blk 1
      have h0 : ∀ n, (w6.drewN n).cell? ⟨b, 0, none⟩ = some (.slice A4 acc.length c4) := fun n => blk_cell HT6.o.blk 0
      obtain ⟨S0, hS0⟩ : ∃ S0, S0 = sOf s := ⟨_, rfl⟩
      have hSd : Sd (S0.data.toList = s) := ⟨by rw [hS0]; rfl⟩
      have hSz : S0.size = s.length := by rw [hS0, sOf_size]
      have hSl : S0.size ≤ 67108864 := by omega
      rw [← hS0]
      have hlook := HT6.o.map.look S0 (by omega)
      rw [hSd.o] at hlook
      have HDN := Sd.mk (done_some w6 b5 r1 A6 c6 HI6.o)
      have HMY := Sd.mk (fun w' => may_any S0 w')
      rw [hSd.o] at HMY
      have HSZ := Sd.mk hSz
      rw [hsym.o] at hgo
      dsimp only at hgo
      have hfin : ∀ w', Keeps NoB w6 w' → ¬ (r1.done = 0 ∧ mayL s = true ∧ s ∉ acc ∧ acc.length < 65536) → LoadPost w p (.returned (.tuple #[.pointer none, .int .i64 0, .int .i64 51])) w' := fun w' hk hn =>
        ⟨HK2.o.then ((HK.o.then HK6.o).then hk), .inl ⟨by rw [hgo.o, if_neg hn], rfl⟩⟩
      have HFIN := Sd.mk hfin
      have HNUM := Sd.mk (numL_lt (l := acc) s HT.o.ne)
      clear hK hI hK6 hS0 hSz hfin htl
      generalize numL acc s = nn at *
      by_cases hd : r1.done = 0
      case neg =>
        have hb : (r1.done != 0) = true := by simp [hd]
        have hno : Sd (¬ (r1.done = 0 ∧ mayL s = true ∧ s ∉ acc ∧ acc.length < 65536)) := ⟨fun h => hd h.1⟩
        clear hd
        go_wp2_with (go_at_call 72; refine HDN.o.mono ?_; rintro e w' ⟨rfl, n, rfl⟩)
        go_ret3
        exact HFIN.o _ ((Keeps.refl NoB w6).drewN n) hno.o
      have hb : (r1.done != 0) = false := by simp [hd]
      have HD := Sd.mk hd
      clear hd
      cases hmy : mayL s with
      | false =>
        have hno : Sd (¬ (r1.done = 0 ∧ mayL s = true ∧ s ∉ acc ∧ acc.length < 65536)) := ⟨fun h => by rw [hmy] at h; exact absurd h.2.1 (by decide)⟩
        rw [hmy] at HMY
        clear hmy
        go_wp2_with (first
          | (go_at_call 72; refine HDN.o.mono ?_; rintro e w' ⟨rfl, n, rfl⟩)
          | (go_at_call 66; refine (HMY.o _).mono ?_; rintro e w' ⟨rfl, rfl⟩))
        go_ret3
        exact HFIN.o _ ((Keeps.refl NoB w6).drewN n) hno.o
      | true =>
      rw [hmy] at HMY
      have HMM := Sd.mk hmy
      clear hmy
      by_cases hkn : s ∈ acc
      · have hno : Sd (¬ (r1.done = 0 ∧ mayL s = true ∧ s ∉ acc ∧ acc.length < 65536)) := ⟨fun h => h.2.2.1 hkn⟩
        rw [decide_eq_true hkn] at hlook
        clear hkn
        go_wp2_with (first
          | (go_at_call 72; refine HDN.o.mono ?_; rintro e w' ⟨rfl, n, rfl⟩)
          | (go_at_call 66; refine (HMY.o _).mono ?_; rintro e w' ⟨rfl, rfl⟩))
        go_ret3
        exact HFIN.o _ ((Keeps.refl NoB w6).drewN n) hno.o
      rw [decide_eq_false hkn] at hlook
      have HKN := Sd.mk hkn
      clear hkn
      by_cases hle : 65536 ≤ acc.length
      · have hno : Sd (¬ (r1.done = 0 ∧ mayL s = true ∧ s ∉ acc ∧ acc.length < 65536)) := ⟨fun h => by omega⟩
        have hq3 : decide ((65536 : Int) ≤ (acc.length : Int)) = true := by simp; omega
        go_wp2_with (first
          | (go_at_call 72; refine HDN.o.mono ?_; rintro e w' ⟨rfl, n, rfl⟩)
          | (go_at_call 66; refine (HMY.o _).mono ?_; rintro e w' ⟨rfl, rfl⟩))
        go_ret3
        exact HFIN.o _ ((Keeps.refl NoB w6).drewN n) hno.o
      have hq3 : decide ((65536 : Int) ≤ (acc.length : Int)) = false := by simp; omega
      have hac2 : acc.length < 65536 := by omega
      have hst : Sd (loadL p = loadGo (fs.drop (k + 1)) (acc ++ [s])) := ⟨by rw [hgo.o, if_pos ⟨HD.o, HMM.o, HKN.o, hac2⟩]⟩
      have HAD : Sd (∀ n, Calls Tryz.prog 67 #[.pointer (some ⟨b, 0, none⟩), .string S0] (w6.drewN n) fun e w' => e = .returned (.tuple #[]) ∧ (∃ A' c', IsT w' w2.heap.size b mb A' c' (acc ++ [s])) ∧ Keeps (FromB w2.heap.size) (w6.drewN n) w') := ⟨fun n => by
        have := tadd_any (w6.drewN n) w2.heap.size b mb A4 c4 acc (HT6.o.kept ((Keeps.refl NoB w6).drewN n)) S0 (by rw [HSZ.o]; exact mayL_len HMM.o) (by rw [hSd.o]; exact HKN.o) (by omega) (Nat.le_trans HK.o.size HK6.o.size)
        rwa [hSd.o] at this⟩
      clear hle
      go_wp2_with (first
        | (go_at_call 72; refine HDN.o.mono ?_; rintro e w' ⟨rfl, n, rfl⟩)
        | (go_at_call 66; refine (HMY.o _).mono ?_; rintro e w' ⟨rfl, rfl⟩)
        | (go_at_call 67; refine (HAD.o _).mono ?_; rintro e w' ⟨rfl, hT, hK⟩; have HT9 := Sd.mk hT; have HK9 := Sd.mk hK; clear hT hK))
      go_roundg (gk - 1)
      case measure => omega
      case rel =>
        obtain ⟨A9, c9, hT9⟩ := HT9.o
        exact ⟨k + 1, c9, acc ++ [s], A9, by omega, by go_num, by simp; omega, hst, ⟨hT9⟩, ⟨((HK.o.then HK6.o).drewN n).trans HK9.o (fun _ _ f => f) (fun i hi f => by have f' : w2.heap.size ≤ i := f; omega)⟩⟩
    · have hq1 : ¬ (k : Int) < (fs.length : Int) := by omega
      have hfin : Sd (loadL p = some acc) := ⟨by rw [HLD.o, List.drop_of_length_le (by omega)]; rfl⟩
      go_wp2
      go_ret3
      have hsz := HK2.o.size
      have hT := HT.o
      exact ⟨HK2.o.then HK.o, .inr ⟨acc, b, mb, A4, c4, hfin.o, by rw [HAT.o]; rfl, ⟨hT.blk, hT.own, hT.map, hT.ne, hT.sz, Nat.le_trans hsz hT.b0, Nat.le_trans hsz hT.m0, fun k hk => Nat.le_trans hsz (hT.a0 k hk)⟩⟩⟩
end Go.Proofs.YtdjamijbhaplgaaGreat
namespace Go.Proofs.YtdjamijbhaplgaaGreat
open Go.RowKit Go.Maps

set_option maxHeartbeats 1000000 in
theorem clos_any (S : ByteArray) (w : World) : Calls Tryz.prog 65 #[.string S] w fun e w' => e = .returned (.bool (!mayL S.data.toList)) ∧ w = w' := by
  go_enter Tryz.func65, Tryz.ntmps65
  go_wp2_with (go_at_call 66; refine (may_any _ _).mono ?_; rintro e w' ⟨rfl, rfl⟩)
  go_ret
  exact ⟨rfl, rfl⟩
/-- A place, or a number below 0 where all are symbols. -/
def IxPost (ss : List (List UInt8)) (w : World) (e : Ending) (w' : World) : Prop := ∃ r : Int, e = .returned (.int .i64 r) ∧ w = w' ∧ -1 ≤ r ∧ r ≤ 9223372036854775807 ∧ (r < 0 ↔ ∀ s ∈ ss, mayL s = true)
set_option maxHeartbeats 2000000 in
theorem ixf_any (w : World) (A : Option Addr) (c : Nat) (ss : List (List UInt8)) (h : VRd w A (strs ss)) (hl : ss.length ≤ 9223372036854775807) :
    Calls Tryz.prog 96 #[.slice A ss.length c, .func (.func 65) #[] #[]] w (IxPost ss w) := by
  have H := Sd.mk h
  clear h
  go_enter Tryz.func96, Tryz.ntmps96
  go_wp2_with fail
  go_loopg [8] ss.length (fun gk i wr => ∃ k : Nat, gk + k = ss.length ∧ i = .int .i64 k ∧ Sd (∀ s ∈ ss.take k, mayL s = true) ∧ Sd (w = wr))
  case atStart => exact ⟨0, by omega, rfl, ⟨by simp⟩, ⟨rfl⟩⟩
  case round =>
    obtain ⟨k, hk, rfl, hall, ⟨rfl⟩⟩ := hrel
    by_cases hlt : k < ss.length
    · have hq : (k : Int) < (ss.length : Int) := by omega
      obtain ⟨b1, o1, rfl, hc⟩ := H.o k (by rw [strs_len]; exact hlt)
      have hc2 : w.cell? ⟨b1, o1 + k, none⟩ = some (.string (sOf ss[k])) := by rw [hc]; simp [strs]
      have htk : Sd (ss.take (k + 1) = ss.take k ++ [ss[k]]) := ⟨List.take_succ_eq_append_getElem hlt⟩
      have hmem : Sd (ss[k] ∈ ss) := ⟨List.getElem_mem hlt⟩
      clear hc
      generalize ss[k] = s at *
      have HC := Sd.mk (clos_any (sOf s) w)
      rw [show (sOf s).data.toList = s from rfl] at HC
      obtain ⟨S0, hS0⟩ : ∃ S0, S0 = sOf s := ⟨_, rfl⟩
      rw [← hS0] at HC hc2
      clear hS0
      cases hm : mayL s with
      | true =>
        rw [hm] at HC
        have HM := Sd.mk hm
        clear hm
        go_wp2_with (go_at_call 65; refine HC.o.mono ?_; rintro e w' ⟨rfl, rfl⟩)
        go_roundg (gk - 1)
        case measure => omega
        case rel => exact ⟨k + 1, by omega, by go_num, ⟨fun x hx => by
          rw [htk.o] at hx
          rcases List.mem_append.1 hx with hx | hx
          · exact hall.o x hx
          · simp at hx; subst hx; exact HM.o⟩, ⟨rfl⟩⟩
      | false =>
        rw [hm] at HC
        have HM := Sd.mk hm
        clear hm
        go_wp2_with (go_at_call 65; refine HC.o.mono ?_; rintro e w' ⟨rfl, rfl⟩)
        go_ret
        exact ⟨k, rfl, rfl, by omega, by omega, ⟨fun h => by omega, fun h => by have := h s hmem.o; rw [HM.o] at this; cases this⟩⟩
    · have hq : ¬ (k : Int) < (ss.length : Int) := by omega
      have hfin : Sd (∀ s ∈ ss, mayL s = true) := ⟨by have := hall.o; rwa [List.take_of_length_le (by omega)] at this⟩
      go_wp2
      go_ret
      exact ⟨-1, rfl, rfl, by decide, by decide, ⟨fun _ => hfin.o, fun _ => by decide⟩⟩
def CfPost (ss : List (List UInt8)) (w : World) (e : Ending) (w' : World) : Prop := ∃ b : Bool, e = .returned (.bool b) ∧ w = w' ∧ (b = false ↔ ∀ s ∈ ss, mayL s = true)
set_option maxHeartbeats 1000000 in
theorem cff_any (w : World) (A : Option Addr) (c : Nat) (ss : List (List UInt8)) (h : VRd w A (strs ss)) (hl : ss.length ≤ 9223372036854775807) :
    Calls Tryz.prog 64 #[.slice A ss.length c, .func (.func 65) #[] #[]] w (CfPost ss w) := by
  have HC := Sd.mk (ixf_any w A c ss h hl)
  clear h
  go_enter Tryz.func64, Tryz.ntmps64
  go_wp2_with fail
  refine HC.o.mono ?_
  clear HC
  rintro e w' ⟨r, rfl, rfl, h1, h2, h3⟩
  have H3 := Sd.mk h3
  clear h3
  by_cases hr : 0 ≤ r
  · have hq : decide (0 ≤ r) = true := by simpa using hr
    go_wp2
    go_ret
    exact ⟨true, rfl, rfl, ⟨(fun h => by cases h), (fun h => by have := H3.o.2 h; omega)⟩⟩
  · have hq : decide (0 ≤ r) = false := by simpa using hr
    go_wp2
    go_ret
    exact ⟨false, rfl, rfl, ⟨fun _ => H3.o.1 (by omega), fun _ => rfl⟩⟩
end Go.Proofs.YtdjamijbhaplgaaGreat
