/- simfs: changes of names. -/
import Derived.Test.YtlhhcoijkjcneaaGreatSimG
namespace Go.Proofs.YtlhhcoijkjcneaaGreat
open Go.RowKit Go.Maps Go.Lib

section
variable {w : World} {ops : Array Oper} {rest : List Oper} {o : Oper} {a : Act} {Q : Exit → Act → World → Prop}
theorem wpList_delete_names (hg : o.guard = none) (m x : Operand) (hop : o.op = Op.call { callee := Callee.builtin Builtin.delete, args := #[m, x], argTypes := #[77, 9] })
    {b : Nat} {d : Dir} (hm : a.eval m = .map (some b)) (h : MapN w b d) (hd : (d.map (·.1)).Nodup) (S : ByteArray) (hS : S.size ≤ 9223372036854775807) (hx : a.eval x = .string S)
    (hK : ∀ w', MapN w' b (d.less S.data.toList) → Keeps (OneB b) w w' → wpList Tryz.prog ops Q rest (a.put o.dst (.tuple #[])) w') : wpList Tryz.prog ops Q (o :: rest) a w := by
  refine wpList_plain hg fun K' hK' => ?_
  obtain ⟨w', hrun, r1, r2⟩ := h.del hd S hS o.type
  unfold Oper.wp
  simp [execOp, hop, resolve, invoke, builtin, hm, hx, hrun, Result.andThen]
  exact hK' _ _ (hK w' r1 r2)
end
theorem FsOne.trans {w w1 w2 : World} {k : Nat} (h : Keeps (OneB k) w w1) (q : Keeps (OneB k) w1 w2) : Keeps (OneB k) w w2 := h.trans q (fun _ _ f => f) (fun _ _ f => f)
theorem less_comm (d : Dir) (a b : List UInt8) : (d.less a).less b = (d.less b).less a := by
  unfold Dir.less
  rw [List.filter_filter, List.filter_filter]
  congr 1
  funext e
  exact Bool.and_comm _ _
theorem moved_same {N : Nat} {d : Dir} (h : GoodDir N d) {a : List UInt8} {n : Nat} (hl : d.lookup a = some n) : (d.less a ++ [(a, n)]).length = d.length ∧ ∀ s, (d.less a ++ [(a, n)]).lookup s = d.lookup s := by
  have hlen := less_len d a h.names
  rw [hl] at hlen
  refine ⟨by simp at hlen ⊢; omega, fun s => ?_⟩
  rw [List.lookup_append, lookup_less]
  by_cases hs : s = a
  · subst hs; rw [if_pos rfl, hl]; simp
  · have hb : (s == a) = false := by simpa using hs
    rw [if_neg hs]
    simp [List.lookup_cons, hb]
set_option maxHeartbeats 4000000 in
set_option maxRecDepth 100000 in
theorem monto_any (w : World) (x : MoveS) (mn N : Nat) (d : Dir) (hN : MapN w mn d) (good : GoodDir N d) (hm : MoveOk N d x) (hlen : d.length ≤ 1000000) (hNN : N ≤ 4611686018427387904) (ha : x.a.length ≤ 9223372036854775807) (hb : x.b.length ≤ 9223372036854775807) :
    Calls Tryz.prog 30 #[.agg (moveCells x).toArray, .map (some mn)] w fun e w' => e = .returned (.tuple #[]) ∧ MapN w' mn (moved d x) ∧ Keeps (OneB mn) w w' := by
  obtain ⟨kind, xa, xb, xn⟩ := x
  dsimp only [moveCells] at *
  obtain ⟨kI, hkI⟩ : ∃ kI : Int, kI = (kind : Nat) := ⟨_, rfl⟩
  rw [← hkI]
  have sa : (sOf xa).size ≤ 9223372036854775807 := by rw [sOf_size]; exact ha
  have sb : (sOf xb).size ≤ 9223372036854775807 := by rw [sOf_size]; exact hb
  have hla : (sOf xa).data.toList = xa := rfl
  have hlb : (sOf xb).data.toList = xb := rfl
  obtain ⟨w1, hw1⟩ : ∃ w1, w1 = w.alloc (.cells #[.int .u8 kI, .string (sOf xa), .string (sOf xb), .int .i64 xn] 81) := ⟨_, rfl⟩
  have hk1 : Keeps NoB w w1 := by rw [hw1]; exact (Keeps.refl NoB w).alloc _
  have hne : mn ≠ w.heap.size := fun e => by have := hN.lt; omega
  have hN1 : MapN w1 mn d := hN.keeps hk1 (fun f => f)
  have HN1 := Sd.mk hN1
  have GD := Sd.mk good
  have HK1 := Sd.mk hk1
  have b1 : w1.heap[w.heap.size]? = some (.cells #[.int .u8 kI, .string (sOf xa), .string (sOf xb), .int .i64 xn] 81 (0, 0)) := by rw [hw1]; exact heap_alloc_new w _
  have B1 := Sd.mk b1
  have HW1 := Sd.mk hw1
  have MO := Sd.mk hm
  clear hN hw1 hk1 hN1 b1 good hm ha hb
  have fin : Sd (∀ d' w', MapN w' mn d' → Keeps (OneB mn) w1 w' → d' = moved d ⟨kind, xa, xb, xn⟩ → MapN w' mn (moved d ⟨kind, xa, xb, xn⟩) ∧ Keeps (OneB mn) w w') := ⟨fun d' w' h k e => ⟨e ▸ h, HK1.o.trans k (fun _ _ f => f.elim) (fun _ _ f => f)⟩⟩
  rcases MO.o with ⟨hk, hl, hnn, hn1, hn2⟩ | hk | hk
  · dsimp only at hk hl hnn hn1 hn2
    have hkI2 : kI = 99 := by omega
    clear hkI
    subst hkI2
    subst hk
    obtain ⟨w2, hput, hN2, hk2⟩ := HN1.o.put GD.o.names (sOf xa) sa xn (by omega) (by omega)
    rw [HW1.o] at hput
    rw [hla, less_of_none hl] at hN2
    have HN2 := Sd.mk hN2
    have HK2 := Sd.mk hk2
    clear hN2 hk2 hl hnn
    go_enter Tryz.func30, Tryz.ntmps30
    go_wp2
    go_end0
    exact ⟨rfl, fin.o _ _ HN2.o HK2.o rfl⟩
  · dsimp only at hk
    have hkI2 : kI = 100 := by omega
    clear hkI
    subst hkI2
    subst hk
    go_enter Tryz.func30, Tryz.ntmps30
    go_wp2_with (at_delete; refine wpList_delete_names rfl _ _ rfl rfl (HW1.o ▸ HN1.o) GD.o.names (sOf xa) sa rfl ?_; intro w2 hN2 hk2; have HN2 := Sd.mk hN2; have HK2 := Sd.mk hk2; clear hN2 hk2)
    go_end0
    exact ⟨rfl, fin.o _ _ HN2.o (HW1.o ▸ HK2.o) rfl⟩
  · dsimp only at hk
    have hkI2 : kI = 114 := by omega
    clear hkI
    subst hkI2
    subst hk
    have hlook := HN1.o.look (sOf xa) sa
    rw [hla, HW1.o] at hlook
    cases hl : d.lookup xa with
    | none =>
      have hmv : Sd (moved d ⟨114, xa, xb, xn⟩ = d) := ⟨by unfold moved Dir.at_; rw [if_neg (by simp), if_neg (by simp)]; dsimp only; rw [hl]⟩
      rw [hl] at hlook
      clear hl
      go_enter Tryz.func30, Tryz.ntmps30
      go_wp2
      go_end0
      rw [hmv.o]
      exact ⟨rfl, HW1.o ▸ HN1.o, HK1.o.trans (HW1.o ▸ Keeps.refl (OneB mn) w1) (fun _ _ f => f.elim) (fun _ _ f => f)⟩
    | some n =>
      have HL := Sd.mk hl
      have hln : n ≤ 4611686018427387904 := Nat.le_trans (GD.o.low _ (lookup_mem hl)).2 hNN
      rw [hl] at hlook
      clear hl
      go_enter Tryz.func30, Tryz.ntmps30
      go_wp2_with (at_delete; refine wpList_delete_names rfl _ _ rfl rfl (HW1.o ▸ HN1.o) GD.o.names (sOf xa) sa rfl ?_; intro w2 hN2 hk2; have HN2 := Sd.mk hN2; have HK2 := Sd.mk hk2; obtain ⟨w3, hput, hN3, hk3⟩ := hN2.put (GD.o.less xa).names (sOf xb) sb n hln (Nat.le_trans (less_sub d xa).length_le (by omega)); have HN3 := Sd.mk hN3; have HK3 := Sd.mk hk3; have hb2 := hk2.cell (blk_cell (HW1.o ▸ B1.o) 2) (fun e => hne e.symm); clear hN2 hk2 hN3 hk3)
      go_end0
      have hq3 : Keeps (OneB mn) w1 w3 := (HW1.o ▸ HK2.o : Keeps (OneB mn) w1 w2).trans HK3.o (fun _ _ f => f) (fun _ _ f => f)
      have hn3 := HN3.o
      rw [hla, hlb] at hn3
      refine ⟨rfl, ?_⟩
      by_cases hab : xa = xb
      · subst hab
        have hmv : moved d ⟨114, xa, xa, xn⟩ = d := by
          unfold moved Dir.at_
          rw [if_neg (by simp), if_neg (by simp)]
          dsimp only
          rw [HL.o]
          dsimp only
          rw [if_pos rfl]
        obtain ⟨e1, e2⟩ := moved_same GD.o HL.o
        have hll : (d.less xa).less xa = d.less xa := less_of_none (by rw [lookup_less, if_pos rfl])
        rw [hll] at hn3
        exact fin.o d w3 (hn3.congr e1.symm (fun s => (e2 s).symm)) hq3 hmv.symm
      · have hmv : moved d ⟨114, xa, xb, xn⟩ = (d.less xa).less xb ++ [(xb, n)] := by
          unfold moved Dir.at_
          rw [if_neg (by simp), if_neg (by simp)]
          dsimp only
          rw [HL.o]
          dsimp only
          rw [if_neg hab]
        exact fin.o _ w3 hn3 hq3 hmv.symm
end Go.Proofs.YtlhhcoijkjcneaaGreat
