/- simfs: on, counts, named. -/
import Derived.Test.YtlhhcoijkjcneaaSimS
namespace Go.Proofs.Ytlhhcoijkjcneaa
open Go.RowKit Go.Maps

theorem on_nil (w : World) : Calls Try.prog 33 #[.pointer none] w fun e w' => e = .returned (.int .i64 7) ∧ w = w' := by
  go_enter Try.func33, Try.ntmps33
  go_wp2
  go_ret
  exact ⟨rfl, rfl⟩
theorem on_some (w : World) (b : Nat) (off : Bool) (h : w.cell? ⟨b, 8, none⟩ = some (.bool off)) :
    Calls Try.prog 33 #[.pointer (some ⟨b, 0, none⟩)] w fun e w' => e = .returned (.int .i64 (if off then 21 else 0)) ∧ w = w' := by
  cases off with
  | true =>
    go_enter Try.func33, Try.ntmps33
    go_wp2
    go_ret
    exact ⟨rfl, rfl⟩
  | false =>
    go_enter Try.func33, Try.ntmps33
    go_wp2
    go_ret
    exact ⟨rfl, rfl⟩
/-- An operation is counted. -/
theorem counts_any (w : World) (b : Nat) (c0 c1 c2 c3 c4 c5 : Value) (ops : Nat) (left : Int) (off : Bool) (h : w.heap[b]? = some (.cells #[c0, c1, c2, c3, c4, c5, .int .i64 (ops : Nat), .int .i64 left, .bool off] 64 (0, 0)))
    (ho : ops ≤ 4611686018427387904) (hl : -1 ≤ left ∧ left ≤ 9223372036854775807) :
    Calls Try.prog 32 #[.pointer (some ⟨b, 0, none⟩)] w fun e w' => e = .returned (.int .i64 0) ∧
      w'.heap[b]? = some (.cells #[c0, c1, c2, c3, c4, c5, .int .i64 ((ops + 1 : Nat) : Int), .int .i64 (if 0 < left then left - 1 else left), .bool (if 0 < left then decide (left = 1) else off)] 64 (0, 0)) ∧ Keeps (OneB b) w w' := by
  have h6 : w.cell? ⟨b, 6, none⟩ = some (.int .i64 (ops : Nat)) := blk_cell h 6
  have h7 : w.cell? ⟨b, 7, none⟩ = some (.int .i64 left) := blk_cell h 7
  have h8 : w.cell? ⟨b, 8, none⟩ = some (.bool off) := blk_cell h 8
  have f6 := blk_frozen h 6
  have f7 := blk_frozen h 7
  have f8 := blk_frozen h 8
  have H := Sd.mk h
  obtain ⟨hl1, hl2⟩ := hl
  clear h
  by_cases hp : 0 < left
  · rw [if_pos hp, if_pos hp]
    go_enter Try.func32, Try.ntmps32
    go_wp2
    go_ret
    refine ⟨rfl, ?_, ?_⟩
    · refine (blk_set (blk_set (blk_set H.o 6 _) 7 _) 8 _).trans ?_
      have e1 : (left - 1 == 0) = decide (left = 1) := by
        by_cases hz : left = 1
        · subst hz; rfl
        · rw [decide_eq_false hz]; simp; omega
      rw [e1]
      rfl
    · exact (((Keeps.refl (OneB b) w).setCell ⟨b, 6, none⟩ _ (fun _ => rfl)).setCell ⟨b, 7, none⟩ _ (fun _ => rfl)).setCell ⟨b, 8, none⟩ _ (fun _ => rfl)
  · rw [if_neg hp, if_neg hp]
    go_enter Try.func32, Try.ntmps32
    go_wp2
    go_ret
    refine ⟨rfl, (blk_set H.o 6 _).trans ?_, (Keeps.refl (OneB b) w).setCell ⟨b, 6, none⟩ _ (fun _ => rfl)⟩
    rfl
theorem named_nil (w : World) (v : Value) : Calls Try.prog 27 #[.pointer none, v] w fun e w' => e = .returned (.int .i64 7) ∧ w = w' := by
  go_enter Try.func27, Try.ntmps27
  go_wp2_with (go_at_call 33; refine (on_nil w).mono ?_; rintro e w' ⟨rfl, rfl⟩)
  go_ret
  exact ⟨rfl, rfl⟩
def namesE (l : List ByteArray) : Int := if l.all (fun S => nameOk S.data.toList) then 0 else 20
theorem namesE_not {l : List ByteArray} {S : ByteArray} (hm : S ∈ l) (h : nameOk S.data.toList = false) : namesE l = 20 := by
  unfold namesE
  rw [if_neg]
  intro ha
  have := List.all_eq_true.1 ha S hm
  rw [h] at this; cases this
set_option maxHeartbeats 2000000 in
theorem named_some (w : World) (b : Nat) (off : Bool) (h : w.cell? ⟨b, 8, none⟩ = some (.bool off)) (A : Option Addr) (c : Nat) (l : List ByteArray) (hl : l.length ≤ 1000) (hsz : ∀ S ∈ l, S.size ≤ 9223372036854775807) (hv : VRd w A (l.map Value.string)) :
    Calls Try.prog 27 #[.pointer (some ⟨b, 0, none⟩), .slice A l.length c] w fun e w' => e = .returned (.int .i64 (if off then 21 else namesE l)) ∧ w = w' := by
  have HON := Sd.mk (on_some w b off h)
  have HV := Sd.mk hv
  have HSZ := Sd.mk hsz
  clear h hv hsz
  cases off with
  | true =>
    go_enter Try.func27, Try.ntmps27
    go_wp2_with (go_at_call 33; refine HON.o.mono ?_; rintro e w' ⟨rfl, rfl⟩)
    go_ret
    exact ⟨rfl, rfl⟩
  | false =>
    go_enter Try.func27, Try.ntmps27
    go_wp2_with (go_at_call 33; refine HON.o.mono ?_; rintro e w' ⟨rfl, rfl⟩)
    clear HON
    go_loopg [16] l.length (fun gk i wr => ∃ j : Nat, gk + j = l.length ∧ i = .int .i64 j ∧ Sd ((l.take j).all (fun S => nameOk S.data.toList) = true) ∧ Sd (w = wr))
    case atStart => exact ⟨0, by omega, rfl, ⟨by simp⟩, ⟨rfl⟩⟩
    case round =>
      obtain ⟨j, hj, rfl, hno, ⟨rfl⟩⟩ := hrel
      by_cases hlt : j < l.length
      · have hq : (j : Int) < (l.length : Int) := by omega
        obtain ⟨b1, o1, rfl, hc⟩ := HV.o j (by simpa using hlt)
        rw [List.getElem_map] at hc
        have hin : l[j] ∈ l := List.getElem_mem hlt
        have htk : l.take (j + 1) = l.take j ++ [l[j]] := List.take_succ_eq_append_getElem hlt
        have hs := HSZ.o _ hin
        generalize l[j] = S at *
        have HC := Sd.mk (cname_any S hs w)
        have HIN := Sd.mk hin
        have HTK := Sd.mk htk
        clear hin htk
        cases hb : nameOk S.data.toList with
        | true =>
          have he : nameE S.data.toList = 0 := by unfold nameE; rw [hb]; rfl
          rw [he] at HC
          go_wp2_with (go_at_call 20; refine HC.o.mono ?_; rintro e w' ⟨rfl, rfl⟩)
          go_roundg (gk - 1)
          case measure => omega
          case rel => exact ⟨j + 1, by omega, by go_num, ⟨by rw [HTK.o, List.all_append, hno.o]; simp [hb]⟩, ⟨rfl⟩⟩
        | false =>
          have he : nameE S.data.toList = 20 := by unfold nameE; rw [hb]; rfl
          rw [he] at HC
          have hE : Sd (namesE l = 20) := ⟨namesE_not HIN.o hb⟩
          go_wp2_with (go_at_call 20; refine HC.o.mono ?_; rintro e w' ⟨rfl, rfl⟩)
          go_ret
          exact ⟨by rw [hE.o]; rfl, rfl⟩
      · have hq : ¬ (j : Int) < (l.length : Int) := by omega
        have hE : Sd (namesE l = 0) := ⟨by
          have h := hno.o
          rw [List.take_of_length_le (by omega)] at h
          unfold namesE
          rw [if_pos h]⟩
        go_wp2_with fail
        go_ret
        exact ⟨by rw [hE.o]; rfl, rfl⟩
end Go.Proofs.Ytlhhcoijkjcneaa
