/- symtab: Number, Symbol, Len, All; frame, Bytes. -/
import Derived.Test.YtdjamijbhaplgaaSymB
import Derived.Test.YtdjamijbhaplgaaArgs
namespace Go.Proofs.Ytdjamijbhaplgaa
open Go.RowKit Go.Maps

set_option maxHeartbeats 1000000 in
theorem tnumber_any (w : World) (base b mb : Nat) (A : Option Addr) (c : Nat) (l : List (List UInt8)) (h : IsT w base b mb A c l) (S : ByteArray) (hS : S.size ≤ 9223372036854775807) :
    Calls Try.prog 6 #[.pointer (some ⟨b, 0, none⟩), .string S] w fun e w' => e = .returned (.tuple #[.int .i64 (numL l S.data.toList : Nat), .bool (decide (S.data.toList ∈ l))]) ∧ w = w' := by
  have h1 : w.cell? ⟨b, 1, none⟩ = some (.map (some mb)) := blk_cell h.blk 1
  have hrun := h.map.look S hS
  generalize numL l S.data.toList = n at *
  generalize decide (S.data.toList ∈ l) = d at *
  clear h
  go_enter Try.func6, Try.ntmps6
  go_wp2
  go_ret2
  exact ⟨rfl, rfl⟩
set_option maxHeartbeats 1000000 in
theorem tlen_any (w : World) (base b mb : Nat) (A : Option Addr) (c : Nat) (l : List (List UInt8)) (h : IsT w base b mb A c l) :
    Calls Try.prog 13 #[.pointer (some ⟨b, 0, none⟩)] w fun e w' => e = .returned (.int .i64 (l.length : Nat)) ∧ w = w' := by
  have h0 : w.cell? ⟨b, 0, none⟩ = some (.slice A l.length c) := blk_cell h.blk 0
  clear h
  go_enter Try.func13, Try.ntmps13
  go_wp2
  go_ret
  exact ⟨rfl, rfl⟩
/-- A number's symbol, or none. -/
def symAt (l : List (List UInt8)) (n : Int) : List UInt8 × Int := if 0 ≤ n ∧ n < (l.length : Int) then (l.getD n.toNat [], 0) else ([], 50)
set_option maxHeartbeats 1000000 in
theorem tsymbol_any (w : World) (base b mb : Nat) (A : Option Addr) (c : Nat) (l : List (List UInt8)) (h : IsT w base b mb A c l) (n : Int) :
    Calls Try.prog 7 #[.pointer (some ⟨b, 0, none⟩), .int .i64 n] w fun e w' => e = .returned (.tuple #[.string (sOf (symAt l n).1), .int .i64 (symAt l n).2]) ∧ w = w' := by
  have h0 : w.cell? ⟨b, 0, none⟩ = some (.slice A l.length c) := blk_cell h.blk 0
  by_cases hn : n < 0
  · have hq : decide (n < 0) = true := by simpa using hn
    have hf : Sd (symAt l n = ([], 50)) := ⟨by unfold symAt; rw [if_neg (by omega)]⟩
    clear h
    go_enter Try.func7, Try.ntmps7
    go_wp2
    go_ret2
    exact ⟨by rw [hf.o]; rfl, rfl⟩
  obtain ⟨k, rfl⟩ : ∃ k : Nat, n = k := ⟨n.toNat, by omega⟩
  have hq : decide ((k : Int) < 0) = false := by simp
  by_cases hk : l.length ≤ k
  · have hq2 : decide (l.length ≤ k) = true := by simpa using hk
    have hf : Sd (symAt l (k : Int) = ([], 50)) := ⟨by unfold symAt; rw [if_neg (by omega)]⟩
    clear h
    go_enter Try.func7, Try.ntmps7
    go_wp2
    go_ret2
    exact ⟨by rw [hf.o]; rfl, rfl⟩
  · have hq2 : decide (l.length ≤ k) = false := by simpa using hk
    have hlt : k < l.length := by omega
    have hf : Sd (symAt l (k : Int) = (l[k], 0)) := ⟨by unfold symAt; rw [if_pos (by omega)]; simp [List.getD, hlt]⟩
    obtain ⟨b1, o1, rfl, hc⟩ := h.own.vrd.2.2.2.2.2 k (by rw [strs_len]; exact hlt)
    have hc2 : w.cell? ⟨b1, o1 + k, none⟩ = some (.string (sOf l[k])) := by rw [hc]; simp [strs]
    have i1 : (k : Int) < (l.length : Int) := by omega
    clear h hc
    generalize l[k] = x at *
    go_enter Try.func7, Try.ntmps7
    go_wp2
    go_ret2
    exact ⟨by rw [hf.o]; rfl, rfl⟩

theorem eqlStrs (w : World) (a : Option Addr) (n c n' c' : Nat) : (binOp .eql 37 (.slice a n c) (.slice none n' c')).run Try.prog w = .ok (.bool a.isNone) w :=
  Lib.run_eql_slice_nil w _ _ a n c n' c' Try.underlying37
set_option maxHeartbeats 1000000 in
theorem sclone_any (w : World) (A : Option Addr) (c : Nat) (l : List (List UInt8)) (h : VRd w A (strs l)) (hA : A = none → l = []) (hl : l.length ≤ 8796093022208) :
    Calls Try.prog 33 #[.slice A l.length c] w fun e w' => ∃ A' c', e = .returned (.slice A' l.length c') ∧ OwnV w' 9 (.slice A' l.length c') (strs l) ∧ Fresh w (.slice A' l.length c') ∧ Keeps NoB w w' := by
  have q := eqlStrs
  have H := Sd.mk h
  have hll := strs_len l
  have HLL := Sd.mk hll
  clear h hll
  cases A with
  | none =>
    have hl0 := hA rfl
    subst hl0
    clear hA
    go_enter Try.func33, Try.ntmps33
    go_wp2
    go_ret
    exact ⟨none, 0, rfl, ⟨by simp [strs], .inl ⟨rfl, rfl⟩⟩, (fun k hk => by simp [Value.ownBlock] at hk), Keeps.refl _ _⟩
  | some a =>
    clear hA
    go_enter Try.func33, Try.ntmps33
    go_wp2_with (at_builtin; go_must (refine app_lit0 rfl _ _ 37 9 (.string ⟨#[]⟩) 16 rfl Try.underlying37 infoStr rfl w.heap.size rfl rfl (some a) l.length c (strs l) rfl HLL.o H.o (fun u hu => by obtain ⟨x, _, rfl⟩ := List.mem_map.1 hu; rfl) (by omega) (by omega) ?_); intro A4 c4 w4 HO4 HK4 HF4; have HP4 := Sd.mk (And.intro HO4 (And.intro HF4 HK4)); clear HO4 HK4 HF4)
    go_ret
    exact ⟨A4, c4, rfl, HP4.o⟩
set_option maxHeartbeats 1000000 in
theorem tall_any (w : World) (base b mb : Nat) (A : Option Addr) (c : Nat) (l : List (List UInt8)) (h : IsT w base b mb A c l) (hl : l.length ≤ 8796093022208) :
    Calls Try.prog 14 #[.pointer (some ⟨b, 0, none⟩)] w fun e w' => ∃ A' c', e = .returned (.slice A' l.length c') ∧ OwnV w' 9 (.slice A' l.length c') (strs l) ∧ Fresh w (.slice A' l.length c') ∧ Keeps NoB w w' := by
  have h0 : w.cell? ⟨b, 0, none⟩ = some (.slice A l.length c) := blk_cell h.blk 0
  have hv := h.own.vrd
  have hA : A = none → l = [] := fun e => by
    have h1 := hv.2.2.2.1 e
    have h2 := hv.2.1
    exact List.eq_nil_of_length_eq_zero (by omega)
  have HC := Sd.mk (sclone_any w A c l hv.2.2.2.2.2 hA hl)
  clear h hv hA
  go_enter Try.func14, Try.ntmps14
  go_wp2_with fail
  refine HC.o.mono ?_
  clear HC
  rintro e w2 ⟨A2, c2, rfl, h2⟩
  have HP := Sd.mk h2
  clear h2
  go_wp2
  go_ret
  exact ⟨A2, c2, rfl, HP.o⟩

set_option maxHeartbeats 2000000 in
theorem tframe_any (w : World) (S : ByteArray) (hS : S.size ≤ 1000000) : Calls Try.prog 25 #[.string S] w fun e w' => ∃ A c, e = .returned (.slice A (frameL S.data.toList).length c) ∧ OwnV w' 5 (.slice A (frameL S.data.toList).length c) (bvs (frameL S.data.toList)) ∧ Fresh w (.slice A (frameL S.data.toList).length c) ∧ Keeps NoB w w' := by
  have hsz : S.data.toList.length = S.size := by rw [Array.length_toList]; rfl
  have hp10 := put1_len10 S.size (by omega)
  have hpt : putT [S.data.toList] = put1T S.data.toList := by simp [putT]
  have hpl : (put1T S.data.toList).length ≤ 1000010 := by unfold put1T; rw [List.length_append, hsz]; omega
  have HPT : Sd (Calls Try.prog 41 #[.slice none 0 0, .slice (some ⟨w.heap.size, 0, none⟩) 1 1] (w.alloc (.cells #[.string S] 9)) fun e w' => ∃ A' c', e = .returned (.slice A' (put1T S.data.toList).length c') ∧ Bts w' (.slice A' (put1T S.data.toList).length c') (put1T S.data.toList) ∧ Keeps NoB w w') := ⟨by
    have hc := puttext_any (w.alloc (.cells #[.string S] 9)) none 0 [] (Own.nil _ 0).v [S.data.toList] (some ⟨w.heap.size, 0, none⟩) 1 (by
      have := one_vrd (w := w) (u := .string S) (e := 9)
      simpa [strs, sOf_eq] using this) (by intro _ b o s _ f; simp [ownB, Value.ownBlock] at f) (by simp [sumLen]; omega)
    rw [List.nil_append, hpt] at hc
    refine hc.mono ?_
    rintro e w' ⟨A', c', he, hO, hK, _⟩
    exact ⟨A', c', he, hO.bts, (hK.mono (fun i _ f => by simp [ownB, Value.ownBlock] at f)).undoalloc⟩⟩
  obtain ⟨X, hX⟩ : ∃ X, X = put1T S.data.toList := ⟨_, rfl⟩
  have hfr : frameL S.data.toList = sealL X := by rw [hX]; rfl
  rw [← hX] at HPT hpl
  rw [hfr]
  clear hX hfr hpt hp10 hsz
  go_enter Try.func25, Try.ntmps25
  go_wp2_with fail
  refine HPT.o.mono ?_
  clear HPT
  rintro e w1 ⟨A1, c1, rfl, hB1, hK1⟩
  have HB1 := Sd.mk hB1
  have HK1 := Sd.mk hK1
  clear hB1 hK1
  have hc := seal_any _ _ 1 [X] (LRd.one HB1.o 26) (by simp)
  rw [show [X].flatten = X by simp] at hc
  have HC := Sd.mk hc
  clear hc
  go_wp2_with fail
  refine HC.o.mono ?_
  clear HC
  rintro e w2 (⟨hb, _⟩ | ⟨_, A2, c2, rfl, hO, hF, hK⟩)
  · omega
  obtain ⟨Y, hY⟩ : ∃ Y, Y = sealL X := ⟨_, rfl⟩
  have HY := Sd.mk hY
  rw [← hY] at hO hF ⊢
  clear hY
  have HP : Sd (OwnV w2 5 (.slice A2 Y.length c2) (bvs Y) ∧ Fresh w (.slice A2 Y.length c2) ∧ Keeps NoB w w2) := ⟨hO, fun k hk => by have := hF k hk; have := HK1.o.size; simp at *; omega, HK1.o.then hK.undoalloc⟩
  clear hO hF hK
  go_wp2
  go_ret
  rw [← HY.o]
  exact ⟨A2, c2, rfl, HP.o⟩
end Go.Proofs.Ytdjamijbhaplgaa
