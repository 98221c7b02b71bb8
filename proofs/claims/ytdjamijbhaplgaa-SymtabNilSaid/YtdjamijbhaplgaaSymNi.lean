/- SymtabNil: what a nil table and a nil file answer. -/
import Derived.Test.YtdjamijbhaplgaaSymI
import Derived.Laws.ResultCell
namespace Go.Proofs.Ytdjamijbhaplgaa
open Go.RowKit Go.Maps

theorem rcell_tmp {fn : Func} {p u : Tmp} {ty : TypeId} (h : fn.results = #[.cell p ty, .tmp u]) (tmps : Array Value) (w : World) (g : Nat) (cs : Array Value)
    (hp : tmps.getD p undef = .pointer (some ⟨g, 0, none⟩)) (hl : (loadVar ty ⟨g, 0, none⟩).run Try.prog w = .ok (.agg cs) w) :
    (results fn tmps).run Try.prog w = .ok (.tuple #[.agg cs, tmps.getD u undef]) w := by
  rw [results_cell_tmp h, hp]
  simp [asAddr, hl, Result.andThen]
set_option maxRecDepth 100000 in
theorem tintern_nil (w : World) (A : Option Addr) (n c : Nat) : Calls Try.prog 5 #[.pointer none, .slice A n c] w fun e w' => e = .returned (.tuple #[.slice none 0 0, .slice none 0 0, .int .i64 7]) ∧ Keeps NoB w w' := by
  go_enter Try.func5, Try.ntmps5
  go_wp2
  go_ret3
  exact ⟨rfl, by first | exact Keeps.refl _ _ | exact (Keeps.refl NoB w).alloc _ | exact ((Keeps.refl NoB w).alloc _).alloc _⟩
set_option maxRecDepth 100000 in
theorem tnumber_nil (w : World) (S : ByteArray) : Calls Try.prog 6 #[.pointer none, .string S] w fun e w' => e = .returned (.tuple #[.int .i64 0, .bool false]) ∧ Keeps NoB w w' := by
  go_enter Try.func6, Try.ntmps6
  go_wp2
  go_ret2
  exact ⟨rfl, by first | exact Keeps.refl _ _ | exact (Keeps.refl NoB w).alloc _ | exact ((Keeps.refl NoB w).alloc _).alloc _⟩
set_option maxRecDepth 100000 in
theorem tsymbol_nil (w : World) (n : Int) : Calls Try.prog 7 #[.pointer none, .int .i64 n] w fun e w' => e = .returned (.tuple #[.string ⟨#[]⟩, .int .i64 7]) ∧ Keeps NoB w w' := by
  go_enter Try.func7, Try.ntmps7
  go_wp2
  go_ret2
  exact ⟨rfl, by first | exact Keeps.refl _ _ | exact (Keeps.refl NoB w).alloc _ | exact ((Keeps.refl NoB w).alloc _).alloc _⟩
set_option maxRecDepth 100000 in
theorem tlen_nil (w : World) : Calls Try.prog 13 #[.pointer none] w fun e w' => e = .returned (.int .i64 0) ∧ Keeps NoB w w' := by
  go_enter Try.func13, Try.ntmps13
  go_wp2
  go_ret
  exact ⟨rfl, by first | exact Keeps.refl _ _ | exact (Keeps.refl NoB w).alloc _ | exact ((Keeps.refl NoB w).alloc _).alloc _⟩
set_option maxRecDepth 100000 in
theorem tall_nil (w : World) : Calls Try.prog 14 #[.pointer none] w fun e w' => e = .returned (.slice none 0 0) ∧ Keeps NoB w w' := by
  go_enter Try.func14, Try.ntmps14
  go_wp2
  go_ret
  exact ⟨rfl, by first | exact Keeps.refl _ _ | exact (Keeps.refl NoB w).alloc _ | exact ((Keeps.refl NoB w).alloc _).alloc _⟩
set_option maxRecDepth 100000 in
theorem tcopy_nil (w : World) : Calls Try.prog 16 #[.pointer none] w fun e w' => e = .returned (.pointer none) ∧ Keeps NoB w w' := by
  go_enter Try.func16, Try.ntmps16
  go_wp2
  go_ret
  exact ⟨rfl, by first | exact Keeps.refl _ _ | exact (Keeps.refl NoB w).alloc _ | exact ((Keeps.refl NoB w).alloc _).alloc _⟩
set_option maxRecDepth 100000 in
theorem fsync_nil (w : World) : Calls Try.prog 17 #[.pointer none] w fun e w' => e = .returned (.int .i64 7) ∧ Keeps NoB w w' := by
  go_enter Try.func17, Try.ntmps17
  go_wp2
  go_ret
  exact ⟨rfl, by first | exact Keeps.refl _ _ | exact (Keeps.refl NoB w).alloc _ | exact ((Keeps.refl NoB w).alloc _).alloc _⟩
set_option maxRecDepth 100000 in
theorem fadd_nil (w : World) (A : Option Addr) (n c : Nat) : Calls Try.prog 10 #[.pointer none, .slice A n c] w fun e w' => e = .returned (.tuple #[.slice none 0 0, .int .i64 7]) ∧ Keeps NoB w w' := by
  go_enter Try.func10, Try.ntmps10
  go_wp2
  go_ret2
  exact ⟨rfl, by first | exact Keeps.refl _ _ | exact (Keeps.refl NoB w).alloc _ | exact ((Keeps.refl NoB w).alloc _).alloc _⟩
set_option maxRecDepth 100000 in
theorem fopen_nil (w : World) (S : ByteArray) : Calls Try.prog 11 #[.pointer none, .string S] w fun e w' => e = .returned (.tuple #[.pointer none, .int .i64 7]) ∧ Keeps NoB w w' := by
  go_enter Try.func11, Try.ntmps11
  go_wp2
  go_ret2
  exact ⟨rfl, by first | exact Keeps.refl _ _ | exact (Keeps.refl NoB w).alloc _ | exact ((Keeps.refl NoB w).alloc _).alloc _⟩
set_option maxRecDepth 100000 in
theorem tenum_nil (w : World) : Calls Try.prog 8 #[.pointer none, .agg #[.int .i64 3, .slice none 0 0, .slice none 0 0, .slice none 0 0]] w fun e w' => e = .returned (.tuple #[.slice none 0 0, .int .i64 7]) ∧ Keeps NoB w w' := by
  go_enter Try.func8, Try.ntmps8
  go_wp2
  go_ret2
  exact ⟨rfl, by first | exact Keeps.refl _ _ | exact (Keeps.refl NoB w).alloc _ | exact ((Keeps.refl NoB w).alloc _).alloc _⟩
set_option maxRecDepth 100000 in
theorem tvec_nil (w : World) : Calls Try.prog 9 #[.pointer none, .slice none 0 0] w fun e w' => e = .returned (.tuple #[.agg #[.int .i64 0, .slice none 0 0, .slice none 0 0, .slice none 0 0], .int .i64 7]) ∧ Keeps NoB w w' := by
  go_enter Try.func9, Try.ntmps9
  go_wp2
  refine bodyPost_ret (rcell_tmp (fn := Try.f9) rfl _ _ w.heap.size _ rfl (run_loadVar_row _ w.heap.size _ _ _ _ _ (heap_alloc_new _ _) Try.underlying40 rfl (by kernel_rfl))) rfl ?_
  exact ⟨rfl, (Keeps.refl NoB w).alloc _⟩
set_option maxRecDepth 100000 in
theorem tbytes_nil (w : World) : Calls Try.prog 15 #[.pointer none] w fun e w' => e = .returned (.slice none 0 0) ∧ Keeps NoB w w' := by
  go_enter Try.func15, Try.ntmps15
  have hmin : min (1 : Int) 0 = 0 := by decide
  have hsl : ∀ W : World, (Instr.slice 37 (.slice none 0 0) (some (.int .i64 0)) none none).run Try.prog W = .ok (.slice none 0 0) W := fun W => by kernel_rfl
  have hK := Keeps.refl NoB w
  go_wp2_with (first | (go_at_call 14; refine (tall_nil _).mono ?_; rintro e w2 ⟨rfl, hk2⟩) | (go_at_call 13; refine (tlen_nil _).mono ?_; rintro e w3 ⟨rfl, hk3⟩))
  have HK : Sd (Keeps NoB w w3) := ⟨hk2.then hk3⟩
  go_loopg [2, 12] 0 (fun gk v i wr => v = .slice none 0 0 ∧ i = .int .i64 0 ∧ Sd (Keeps NoB w wr))
  case atStart => exact ⟨rfl, rfl, HK⟩
  case round =>
    obtain ⟨rfl, rfl, HK2⟩ := hrel
    go_wp2_with fail
    go_ret
    exact ⟨rfl, HK2.o⟩
set_option maxHeartbeats 8000000 in
set_option maxRecDepth 100000 in
theorem sym_nil_walk (w : World) (S : ByteArray) (hS : S.size ≤ 9223372036854775807) (n : Int) : Calls Try.prog 3 #[.string S, .int .i64 n] w fun e w' => e = .returned (.bool true) ∧ Keeps NoB w w' := by
  have HK : Sd (Keeps NoB w w) := ⟨Keeps.refl _ _⟩
  by_cases hbig : (20000 : Int) < S.size
  · go_enter Try.func3, Try.ntmps3
    go_wp2_with ((go_at_call 4; refine (slive_any _).mono ?_; rintro e w' ⟨rfl, hk⟩; (first | replace HK := Sd.mk (HK.o.then hk) | replace HK := Sd.mk ((HK.o.alloc _).then hk)); clear hk))
    go_ret
    exact ⟨rfl, HK.o⟩
  · go_enter Try.func3, Try.ntmps3
    go_wp2_with (first | (go_at_call 12; refine (num_law _ _).mono ?_; rintro e w' ⟨rfl, rfl⟩) | (go_at_call 5; refine (tintern_nil _ _ _ _).mono ?_; rintro e w' ⟨rfl, hk⟩; (first | replace HK := Sd.mk (HK.o.then hk) | replace HK := Sd.mk ((HK.o.alloc _).then hk)); clear hk) | (go_at_call 6; refine (tnumber_nil _ _).mono ?_; rintro e w' ⟨rfl, hk⟩; (first | replace HK := Sd.mk (HK.o.then hk) | replace HK := Sd.mk ((HK.o.alloc _).then hk)); clear hk) | (go_at_call 7; refine (tsymbol_nil _ _).mono ?_; rintro e w' ⟨rfl, hk⟩; (first | replace HK := Sd.mk (HK.o.then hk) | replace HK := Sd.mk ((HK.o.alloc _).then hk)); clear hk) | (go_at_call 8; refine (tenum_nil _).mono ?_; rintro e w' ⟨rfl, hk⟩; (first | replace HK := Sd.mk (HK.o.then hk) | replace HK := Sd.mk ((HK.o.alloc _).then hk)); clear hk) | (go_at_call 9; refine (tvec_nil _).mono ?_; rintro e w' ⟨rfl, hk⟩; (first | replace HK := Sd.mk (HK.o.then hk) | replace HK := Sd.mk ((HK.o.alloc _).then hk)); clear hk) | (go_at_call 11; refine (fopen_nil _ _).mono ?_; rintro e w' ⟨rfl, hk⟩; (first | replace HK := Sd.mk (HK.o.then hk) | replace HK := Sd.mk ((HK.o.alloc _).then hk)); clear hk) | (go_at_call 13; refine (tlen_nil _).mono ?_; rintro e w' ⟨rfl, hk⟩; (first | replace HK := Sd.mk (HK.o.then hk) | replace HK := Sd.mk ((HK.o.alloc _).then hk)); clear hk) | (go_at_call 14; refine (tall_nil _).mono ?_; rintro e w' ⟨rfl, hk⟩; (first | replace HK := Sd.mk (HK.o.then hk) | replace HK := Sd.mk ((HK.o.alloc _).then hk)); clear hk) | (go_at_call 15; refine (tbytes_nil _).mono ?_; rintro e w' ⟨rfl, hk⟩; (first | replace HK := Sd.mk (HK.o.then hk) | replace HK := Sd.mk ((HK.o.alloc _).then hk)); clear hk) | (go_at_call 16; refine (tcopy_nil _).mono ?_; rintro e w' ⟨rfl, hk⟩; (first | replace HK := Sd.mk (HK.o.then hk) | replace HK := Sd.mk ((HK.o.alloc _).then hk)); clear hk) | (go_at_call 17; refine (fsync_nil _).mono ?_; rintro e w' ⟨rfl, hk⟩; (first | replace HK := Sd.mk (HK.o.then hk) | replace HK := Sd.mk ((HK.o.alloc _).then hk)); clear hk))
    refine (fadd_nil _ _ _ _).mono ?_
    rintro e w2 ⟨rfl, hk⟩
    have hc : w2.cell? ⟨w'.heap.size, 0, none⟩ = some (.int .i64 0) := hk.cell (blk_cell (((Keeps.refl NoB _).alloc _).obj (heap_alloc_new _ _) (fun f => f)) 0) (fun f => f)
    replace HK : Sd (Keeps NoB w w2) := ⟨((HK.o.alloc _).alloc _).then hk⟩
    clear hk
    generalize w'.heap.size = g at *
    go_wp2_with (first | (go_at_call 12; refine (num_law _ _).mono ?_; rintro e w' ⟨rfl, rfl⟩) | (go_at_call 4; refine (slive_any _).mono ?_; rintro e w' ⟨rfl, hk⟩; (first | replace HK := Sd.mk (HK.o.then hk) | replace HK := Sd.mk ((HK.o.alloc _).then hk)); replace hc := hk.cell hc (fun f => f); clear hk) | (go_at_call 5; refine (tintern_nil _ _ _ _).mono ?_; rintro e w' ⟨rfl, hk⟩; (first | replace HK := Sd.mk (HK.o.then hk) | replace HK := Sd.mk ((HK.o.alloc _).then hk)); replace hc := hk.cell hc (fun f => f); clear hk) | (go_at_call 6; refine (tnumber_nil _ _).mono ?_; rintro e w' ⟨rfl, hk⟩; (first | replace HK := Sd.mk (HK.o.then hk) | replace HK := Sd.mk ((HK.o.alloc _).then hk)); replace hc := hk.cell hc (fun f => f); clear hk) | (go_at_call 7; refine (tsymbol_nil _ _).mono ?_; rintro e w' ⟨rfl, hk⟩; (first | replace HK := Sd.mk (HK.o.then hk) | replace HK := Sd.mk ((HK.o.alloc _).then hk)); replace hc := hk.cell hc (fun f => f); clear hk) | (go_at_call 8; refine (tenum_nil _).mono ?_; rintro e w' ⟨rfl, hk⟩; (first | replace HK := Sd.mk (HK.o.then hk) | replace HK := Sd.mk ((HK.o.alloc _).then hk)); replace hc := hk.cell hc (fun f => f); clear hk) | (go_at_call 9; refine (tvec_nil _).mono ?_; rintro e w' ⟨rfl, hk⟩; (first | replace HK := Sd.mk (HK.o.then hk) | replace HK := Sd.mk ((HK.o.alloc _).then hk)); replace hc := hk.cell hc (fun f => f); clear hk) | (go_at_call 11; refine (fopen_nil _ _).mono ?_; rintro e w' ⟨rfl, hk⟩; (first | replace HK := Sd.mk (HK.o.then hk) | replace HK := Sd.mk ((HK.o.alloc _).then hk)); replace hc := hk.cell hc (fun f => f); clear hk) | (go_at_call 13; refine (tlen_nil _).mono ?_; rintro e w' ⟨rfl, hk⟩; (first | replace HK := Sd.mk (HK.o.then hk) | replace HK := Sd.mk ((HK.o.alloc _).then hk)); replace hc := hk.cell hc (fun f => f); clear hk) | (go_at_call 14; refine (tall_nil _).mono ?_; rintro e w' ⟨rfl, hk⟩; (first | replace HK := Sd.mk (HK.o.then hk) | replace HK := Sd.mk ((HK.o.alloc _).then hk)); replace hc := hk.cell hc (fun f => f); clear hk) | (go_at_call 15; refine (tbytes_nil _).mono ?_; rintro e w' ⟨rfl, hk⟩; (first | replace HK := Sd.mk (HK.o.then hk) | replace HK := Sd.mk ((HK.o.alloc _).then hk)); replace hc := hk.cell hc (fun f => f); clear hk) | (go_at_call 16; refine (tcopy_nil _).mono ?_; rintro e w' ⟨rfl, hk⟩; (first | replace HK := Sd.mk (HK.o.then hk) | replace HK := Sd.mk ((HK.o.alloc _).then hk)); replace hc := hk.cell hc (fun f => f); clear hk) | (go_at_call 17; refine (fsync_nil _).mono ?_; rintro e w' ⟨rfl, hk⟩; (first | replace HK := Sd.mk (HK.o.then hk) | replace HK := Sd.mk ((HK.o.alloc _).then hk)); replace hc := hk.cell hc (fun f => f); clear hk))
    go_ret
    exact ⟨rfl, HK.o⟩
end Go.Proofs.Ytdjamijbhaplgaa
