/- symtab: may; maps from symbols to numbers. -/
import Derived.Test.YtdjamijbhaplgaaSymP
import Derived.Test.YtdjamijbhaplgaaWords
import Derived.Test.YtdjamijbhaplgaaAfter
import Derived.Lib.Bytealg
import Derived.Lib.Walk
import Derived.Maps.OwnSet
import Derived.Maps.OwnOps
import Derived.StringKeys
namespace Go.Proofs.Ytdjamijbhaplgaa
open Go.RowKit Go.Maps

theorem ixb_any (s : ByteArray) (c : Int) (w : World) :
    Calls Try.prog 56 #[.string s, .int .u8 c] w fun e w' => e = .returned (.int .i64 (Lib.indexByte s.data.toList c.toNat.toUInt8)) ∧ w = w' := by
  go_enter Try.func56, Try.ntmps56
  go_wp2
  rw [run_callFunc_extern Try.func66 (by kernel_rfl) (by kernel_rfl) (by kernel_rfl) (e := Extern.BytealgIndexByte.indexByte) (by kernel_rfl), Lib.run_indexByteString]
  simp only [Result.andThen]
  rw [Oper.upon_value]
  go_wp2
  go_ret
  exact ⟨rfl, rfl⟩
theorem sixb_any (s : ByteArray) (c : Int) (w : World) :
    Calls Try.prog 39 #[.string s, .int .u8 c] w fun e w' => e = .returned (.int .i64 (Lib.indexByte s.data.toList c.toNat.toUInt8)) ∧ w = w' := by
  go_enter Try.func39, Try.ntmps39
  go_wp2_with (go_at_call 56; refine (ixb_any _ _ _).mono ?_; rintro e w' ⟨rfl, rfl⟩)
  go_ret
  exact ⟨rfl, rfl⟩
theorem indexByte_neg (l : List UInt8) (c : UInt8) : decide (Lib.indexByte l c < 0) = !l.contains c := by
  induction l with
  | nil => rfl
  | cons b l ih =>
    have hg := Lib.indexByte_ge l c
    unfold Lib.indexByte
    by_cases hb : b = c
    · subst hb; simp
    · rw [if_neg (by simpa using hb)]
      have h2 : (b :: l).contains c = l.contains c := by simp [Ne.symm hb]
      rw [h2, ← ih]
      by_cases hn : Lib.indexByte l c = -1
      · simp [hn]
      · rw [if_neg (by simpa using hn)]
        simp
        omega
set_option maxHeartbeats 1000000 in
theorem may_any (s : ByteArray) (w : World) : Calls Try.prog 23 #[.string s] w fun e w' => e = .returned (.bool (mayL s.data.toList)) ∧ w = w' := by
  have hsz : s.data.toList.length = s.size := by rw [Array.length_toList]; rfl
  have hn := indexByte_neg s.data.toList 0
  by_cases h : s.size ≤ 64
  · have hq : decide (s.size ≤ 64) = true := by simpa using h
    have hq2 : decide ((s.size : Int) ≤ 64) = true := by simp; omega
    have hf : Sd (mayL s.data.toList = !s.data.toList.contains 0) := ⟨by unfold mayL; rw [hsz, hq]; rfl⟩
    obtain ⟨x, hx⟩ : ∃ x, x = Lib.indexByte s.data.toList 0 := ⟨_, rfl⟩
    have HX := Sd.mk hx
    rw [← hx] at hn
    obtain ⟨y, hy⟩ : ∃ y, y = !s.data.toList.contains 0 := ⟨_, rfl⟩
    rw [← hy] at hn hf
    clear hx hy hsz
    go_enter Try.func23, Try.ntmps23
    go_wp2_with fail
    refine (sixb_any s 0 w).mono ?_
    rw [show (0 : Int).toNat.toUInt8 = 0 from rfl, ← HX.o]
    rintro e w' ⟨rfl, rfl⟩
    go_wp2
    go_ret
    exact ⟨by rw [hf.o]; rfl, rfl⟩
  · have hq2 : decide ((s.size : Int) ≤ 64) = false := by simp; omega
    have hf : Sd (mayL s.data.toList = false) := ⟨by unfold mayL; rw [hsz]; simp; omega⟩
    clear hsz hn h
    go_enter Try.func23, Try.ntmps23
    go_wp2
    go_ret
    exact ⟨by rw [hf.o]; rfl, rfl⟩

/-! ### maps from symbols to numbers -/
theorem keyS : Keyed Try.prog 9 := string_keyed Try.underlying9
theorem zeroInt (w : World) : (zeroValue 3).run Try.prog w = .ok (.int .i64 0) w := by kernel_rfl
def zd0 : DataW Unit := .lit (.int .i64 0)
/-- Block b is the map of the symbols l to their places. -/
def MapS (w : World) (b : Nat) (l : List (List UInt8)) : Prop := ∃ (D : DataW Unit) (n : Nat), w.ownsMap Try.prog 9 (plainElem (H := Unit) Try.prog 3) b n D ∧ n ≤ l.length ∧
  ∀ s : List UInt8, Maps.has D (.string s) = decide (s ∈ l) ∧ D.atKey (.string s) zd0 = .lit (.int .i64 (numL l s : Nat))
theorem numL_lt {l : List (List UInt8)} (s : List UInt8) (h : l ≠ []) : numL l s < l.length := by
  unfold numL
  split
  · rename_i hs; exact List.idxOf_lt_length_of_mem hs
  · exact List.length_pos_iff.2 h
theorem wf_small {n : Nat} (h : n < 9223372036854775808) : (Lit.int .i64 (n : Int)).wf = true :=
  WalkArith.wf_i64 (by omega)
theorem MapS.look {w : World} {b : Nat} {l : List (List UInt8)} (h : MapS w b l) (S : ByteArray) (hS : S.size ≤ 9223372036854775807) :
    (Instr.lookup 60 (.map (some b)) (.string S) true).run Try.prog w = .ok (.tuple #[.int .i64 (numL l S.data.toList : Nat), .bool (decide (S.data.toList ∈ l))]) w := by
  obtain ⟨D, n, hown, hn, hD⟩ := h
  have hkey := Go.WideMaps.keyOf_string_mk (P := Try.prog) Try.underlying9 (s := S) (by unfold maxLen; exact hS)
  have hz : plainElem (H := Unit) Try.prog 3 (.int .i64 0) = some (zd0, []) := plainElem_int Try.underlying3 (by decide)
  obtain ⟨v, ps, hrun, hR⟩ := hown.look_ok keyS Try.underlying60 (zeroInt w) hz hkey
  obtain ⟨c, rfl, hc, _⟩ := plainElem_int_inv Try.underlying3 hR
  rw [(hD S.data.toList).2] at hc
  simp at hc
  rw [hrun, (hD S.data.toList).1, hc.1]
theorem MapS.look1 {w : World} {b : Nat} {l : List (List UInt8)} (h : MapS w b l) (S : ByteArray) (hS : S.size ≤ 9223372036854775807) :
    (Instr.lookup 60 (.map (some b)) (.string S) false).run Try.prog w = .ok (.int .i64 (numL l S.data.toList : Nat)) w := by
  obtain ⟨D, n, hown, hn, hD⟩ := h
  have hkey := Go.WideMaps.keyOf_string_mk (P := Try.prog) Try.underlying9 (s := S) (by unfold maxLen; exact hS)
  have hz : plainElem (H := Unit) Try.prog 3 (.int .i64 0) = some (zd0, []) := plainElem_int Try.underlying3 (by decide)
  obtain ⟨v, ps, hrun, hR⟩ := hown.lookup keyS Try.underlying60 (zeroInt w) hz hkey
  obtain ⟨c, rfl, hc, _⟩ := plainElem_int_inv Try.underlying3 hR
  rw [(hD S.data.toList).2] at hc
  simp at hc
  rw [hrun, hc.1]
theorem numL_snoc (l : List (List UInt8)) (s x : List UInt8) (hs : s ∉ l) : numL (l ++ [s]) x = if x = s then l.length else numL l x := by
  unfold numL
  by_cases hx : x = s
  · subst hx
    rw [if_pos (by simp), if_pos rfl, List.idxOf_append, if_neg hs]
    simp
  · rw [if_neg hx]
    by_cases hm : x ∈ l
    · rw [if_pos (by simp [hm]), if_pos hm, List.idxOf_append, if_pos hm]
    · rw [if_neg (by simp [hm, hx]), if_neg hm]
/-- A new symbol is laid into the map. -/
theorem MapS.put {w : World} {b : Nat} {l : List (List UInt8)} (h : MapS w b l) (S : ByteArray) (hS : S.size ≤ 9223372036854775807) (hs : S.data.toList ∉ l) (hl : l.length < 9223372036854775807) :
    ∃ w', (Instr.mapUpdate 60 (.map (some b)) (.string S) (.int .i64 (l.length : Nat))).run Try.prog w = .ok () w' ∧ MapS w' b (l ++ [S.data.toList]) ∧ Keeps (OneB b) w w' := by
  obtain ⟨D, n, hown, hn, hD⟩ := h
  have hkey := Go.WideMaps.keyOf_string_mk (P := Try.prog) Try.underlying9 (s := S) (by unfold maxLen; exact hS)
  have hv : plainElem (H := Unit) Try.prog 3 (.int .i64 (l.length : Nat)) = some (.lit (.int .i64 (l.length : Nat)), []) := plainElem_int Try.underlying3 (wf_small (by omega))
  obtain ⟨w', hrun, hown', hg⟩ := hown.update keyS Try.underlying60 (by unfold maxLen; omega) hkey hv
  refine ⟨w', hrun, ⟨_, n + 1, hown', by simp; omega, fun x => ?_⟩, Keeps.of_grown hg (fun b' hb _ => by cases hb; rfl)⟩
  have hm := hown.isMap
  rw [numL_snoc l _ x hs]
  by_cases hx : x = S.data.toList
  · subst hx
    rw [has_put_same hm (by simp [WideAt.IsKeyLit]), atKey_put_same hm (by simp [WideAt.IsKeyLit]), if_pos rfl]
    simp
  · have hne : Lit.string x ≠ Lit.string S.data.toList := fun e => hx (by injection e)
    rw [has_put_other hne, atKey_put_other hne, if_neg hx, (hD x).1, (hD x).2]
    refine ⟨?_, rfl⟩
    simp [hx]
theorem MapS.keeps {F : Nat → Prop} {w w' : World} {b : Nat} {l : List (List UInt8)} (h : MapS w b l) (k : Keeps F w w') (hF : ¬ F b) : MapS w' b l := by
  obtain ⟨D, n, ⟨es, clock, hb, r⟩, hn⟩ := h
  exact ⟨D, n, ⟨es, clock, k.obj hb hF, r⟩, hn⟩
theorem MapS.lt {w : World} {b : Nat} {l : List (List UInt8)} (h : MapS w b l) : b < w.heap.size := by
  obtain ⟨D, n, hown, _⟩ := h; exact hown.lt
theorem MapS.made (w : World) : MapS (w.alloc (.map #[] 0)) w.heap.size [] :=
  ⟨.map [], 0, World.ownsMap_made _ _ _ _, Nat.le_refl _, fun s => ⟨by simp [Maps.has], by simp [DataW.atKey, numL, zd0]⟩⟩
end Go.Proofs.Ytdjamijbhaplgaa
