/- OctetReads: for every slice of bytes and every slice of steps the law returns true and leaves its arguments as they were. No condition. -/
import Derived.Test.YtlnmjeiiagkipaaArgs2
import Derived.Test.YtlnmjeiiagkipaaWReads
import Derived.Deep.SlicePairs
namespace Go.Proofs.Ytlnmjeiiagkipaa.octetReads
open Go.RowKit Go.ChangeShapes Go.WideShapes Go.ChangeAt

theorem own : ownKnob Try.checked.prog.godebug = none := by kernel_rfl

theorem cellsStep : Try.prog.cellsOf 74 = 2 := by kernel_rfl
theorem cellsInt : Try.prog.cellsOf 3 = 1 := by kernel_rfl
theorem op_steps {H : Type} {enc : TypeId × Value → H} {w : World} {held : Bool} {fuel : Nat} {A : Option Addr} {n c : Nat} {x : DataW H × List MemPlace} (h : DataW.trod enc Try.prog w 0 (fun _ => true) held fuel 70 [.slice A n c] = some x) :
    ∃ l : List (Int × Int), l.length = n ∧ SRd w A l ∧ (∀ x ∈ l, (-9223372036854775808 ≤ x.1 ∧ x.1 ≤ 9223372036854775807) ∧ (-9223372036854775808 ≤ x.2 ∧ x.2 ≤ 9223372036854775807)) ∧ n ≤ maxLen := by
  rcases Go.Deep.open_slice_pairs Try.underlying70 Try.underlying74 cellsStep rfl rfl cellsInt cellsInt h with ⟨hcs, _⟩ | ⟨a, len, cap, m, k, V0, V1, D0, D1, P0, P1, hcs, _, hl, hm, hmm, _, hc⟩
  · simp at hcs
    obtain ⟨rfl, rfl, rfl⟩ := hcs
    exact ⟨[], rfl, (fun i hi => by simp at hi), by simp, Nat.zero_le _⟩
  · simp at hcs
    obtain ⟨rfl, rfl, rfl⟩ := hcs
    simp only [if_true] at hmm
    subst hmm
    have each : ∀ r : Fin n, ∃ y : Int × Int, V0 r = .int .i64 y.1 ∧ V1 r = .int .i64 y.2 ∧ (Lit.int .i64 y.1).wf = true ∧ (Lit.int .i64 y.2).wf = true := fun r => by
      obtain ⟨_, _, t0, t1⟩ := hc r (by have := r.isLt; omega)
      obtain ⟨x, hx, _, wx⟩ := DataW.trod_int Try.underlying3 t0
      obtain ⟨y, hy, _, wy⟩ := DataW.trod_int Try.underlying3 t1
      exact ⟨(x, y), by simpa using hx, by simpa using hy, wx, wy⟩
    refine ⟨(List.finRange n).map fun r => (each r).choose, by simp, fun i hi => ?_, fun y hy => ?_, by omega⟩
    · simp at hi
      have h0 := (hc 0 (by omega)).1
      rw [show 0 * 2 = 0 from rfl, add_zero] at h0
      have hs := spot_of_cell h0
      obtain ⟨b, o, s⟩ := a
      have hs' : s = none := hs.1
      subst hs'
      obtain ⟨g0, g1, _, _⟩ := hc i (by omega)
      rw [add_lit] at g0 g1
      have hch := (each ⟨i, hi⟩).choose_spec
      refine ⟨b, o, rfl, ?_, ?_⟩
      · rw [g0, hch.1]; simp
      · rw [Nat.add_assoc, g1, hch.2.1]; simp
    · obtain ⟨r, _, rfl⟩ := List.mem_map.1 hy
      have hch := (each r).choose_spec
      have h1 := bounds_i64 hch.2.2.1
      have h2 := bounds_i64 hch.2.2.2
      omega

set_option maxRecDepth 100000 in
theorem lifted (os : Os) (started : os.Started) (H : Type) (enc : TypeId × Value → H) :
    ReturnsInHanded {} Try.checked os 8 .any (Rows.octetReadsSpec.pre6 enc Try.prog Try.f8 Rows.octetReadsRow.domain false) (Rows.octetReadsSpec.post enc Try.prog Try.f8 false true false false) := by
  refine returnsInHanded_of_change_sized (C := Try.checked) own started (by kernel_rfl) Try.func8
    (ChangeSpec.witness6 (enc := enc) (C := Try.checked) false ⟨#[], #[.slice none 0 0, .slice none 0 0], []⟩ 8 (by kernel_rfl) (by kernel_rfl) (by kernel_rfl) (by kernel_rfl)) ?_
  intro W base args ds gs before hval0 hW hcnd hsz _
  have hval : ∀ (j : Nat) t v, Try.f8.params[j]? = some t → args[j]? = some v → Value.okWide Try.prog W .any base t v := hval0
  have hW' := hW
  obtain ⟨p, q, hA0, hV, rfl, hfz, hnd⟩ := hW
  have hA : DataW.TrodAll enc Try.prog W 0 (fun _ => true) true Try.f8.params.toList args.toList ds p := hA0
  rw [Try.params8] at hA hval
  have hA2 := hA
  obtain ⟨v0, vs0, d0, ds0, p0, q0, hargs, rfl, rfl, h0, r0⟩ := trodAll_cons hA
  obtain ⟨v1, vs1, d1, ds1, p1, q1, rfl, rfl, rfl, h1, r1⟩ := trodAll_cons r0
  obtain ⟨rfl, rfl, rfl⟩ := trodAll_nil r1
  obtain rfl : args = #[v0, v1] := by cases args; simp_all
  obtain ⟨rfl, rfl⟩ := trodVars_none hV
  clear hA0 hval0 r0 r1 hA hargs
  obtain ⟨A0, n0, c0, rfl⟩ := okWide_slice Try.underlying22 (hval 0 22 v0 rfl rfl)
  obtain ⟨A1, n1, c1, rfl⟩ := okWide_slice Try.underlying70 (hval 1 70 v1 rfl rfl)
  clear hval
  simp only [List.append_nil] at hW' hsz
  have hlt : ∀ x ∈ p0 ++ p1, x.block < W.heap.size := fun x hx => by
    have := hW'.lt x hx
    simpa using this
  obtain ⟨f0, h0⟩ := h0
  obtain ⟨f1, h1⟩ := h1
  obtain ⟨⟨bs, rfl, hb⟩, hbc⟩ := op_bytes h0
  obtain ⟨ls, rfl, hls, hlb, hll⟩ := op_steps h1
  have hmax : maxLen = 9223372036854775807 := rfl
  refine (walk W A0 c0 bs hb A1 c1 ls hls hlb (by omega)).mono fun e W' ⟨he, hg0⟩ => ?_
  subst he
  have hg := hg0.below (fun _ _ f => f)
  exact ⟨_, rfl, _, _, _, [], _, [], hW', trodAll_cons_mk (shut_bool Try.underlying4 _) trodAll_mk0, trodAll_stays laidOut hg (by kernel_rfl) hA2 (by simpa using hlt), rfl, hg.frame _, fun h => by cases h⟩

theorem over : Rows.octetReadsRow.holds Try.pinned (OpenSpec.ofChange Rows.octetReadsSpec) :=
  OpenClaim.holds_of_wide 8 Try.f8 rfl rfl rfl rfl rfl rfl rfl ⟨rfl, rfl, rfl, rfl, rfl⟩ rfl rfl rfl rfl rfl (by kernel_rfl) Try.func8 (by kernel_rfl)
    (of_decide_eq_true (by kernel_rfl)) (by unfold Func.isWrapper; first | (rw [if_pos (by decide +kernel)]; kernel_rfl) | (rw [if_neg (by decide +kernel)]; exact ⟨rfl, rfl⟩))
    (fun os started H enc _ => lifted os started H enc)

theorem proved : Rows.OctetReadsSaid :=
  over
#print axioms proved
end Go.Proofs.Ytlnmjeiiagkipaa.octetReads
