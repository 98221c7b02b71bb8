/- SymtabBack: for every list of strings and every int the law returns true and leaves its arguments as they were. No condition. -/
import Derived.Test.YthelafgdegkkkaaEnd
import Derived.Test.YthelafgdegkkkaaArgs2
import Derived.Test.YthelafgdegkkkaaSymJ
namespace Go.Proofs.Ythelafgdegkkkaa.symtabBack
open Go.RowKit Go.ChangeShapes Go.WideShapes Go.ChangeAt

theorem own : ownKnob Try.checked.prog.godebug = none := by kernel_rfl

set_option maxRecDepth 100000 in
theorem lifted (os : Os) (started : os.Started) (H : Type) (enc : TypeId × Value → H) :
    ReturnsInHanded {} Try.checked os 4 .any (Rows.symtabBackSpec.pre6 enc Try.prog Try.f4 Rows.symtabBackRow.domain false) (Rows.symtabBackSpec.post enc Try.prog Try.f4 false true false false) := by
  refine returnsInHanded_of_change_sized (C := Try.checked) own started (by kernel_rfl) Try.func4
    (ChangeSpec.witness6 (enc := enc) (C := Try.checked) false ⟨#[], #[.slice none 0 0, .int .i64 0], []⟩ 8 (by kernel_rfl) (by kernel_rfl) (by kernel_rfl) (by kernel_rfl)) ?_
  intro W base args ds gs before hval0 hW hcnd hsz _
  have hval : ∀ (j : Nat) t v, Try.f4.params[j]? = some t → args[j]? = some v → Value.okWide Try.prog W .any base t v := hval0
  have hW' := hW
  obtain ⟨p, q, hA0, hV, rfl, hfz, hnd⟩ := hW
  have hA : DataW.TrodAll enc Try.prog W 0 (fun _ => true) true Try.f4.params.toList args.toList ds p := hA0
  rw [Try.params4] at hA hval
  have hA2 := hA
  obtain ⟨v0, vs0, d0, ds0, p0, q0, hargs, rfl, rfl, h0, r0⟩ := trodAll_cons hA
  obtain ⟨v1, vs1, d1, ds1, p1, q1, rfl, rfl, rfl, h1, r1⟩ := trodAll_cons r0
  obtain ⟨rfl, rfl, rfl⟩ := trodAll_nil r1
  obtain rfl : args = #[v0, v1] := by cases args; simp_all
  obtain ⟨rfl, rfl⟩ := trodVars_none hV
  clear hA0 hval0 r0 r1 hA hargs
  obtain ⟨A0, n0, c0, rfl⟩ := okWide_slice Try.underlying34 (hval 0 34 v0 rfl rfl)
  have hval1 := hval 1 3 v1 rfl rfl
  clear hval
  simp only [List.append_nil] at hW' hsz
  have hlt : ∀ x ∈ p0 ++ p1, x.block < W.heap.size := fun x hx => by
    have := hW'.lt x hx
    simpa using this
  obtain ⟨f0, h0⟩ := h0
  obtain ⟨a1, rfl, rfl, rfl, w1⟩ := open_int Try.underlying3 (hval1) h1
  obtain ⟨ls, rfl, hls, hll, hle⟩ := op_strs h0
  have hmax : maxLen = 9223372036854775807 := rfl
  have hrb : reachBytes = 140737488351232 := rfl
  have hib := bounds_i64 w1
  have hsl : ∀ s ∈ ls, s.length ≤ 140737488351232 := fun s hs => by
    rcases hle with ⟨_, hn⟩ | ⟨el, sp, e, hl⟩
    · rw [List.eq_nil_of_length_eq_zero hn] at hs
      cases hs
    · have e' : d0 = .slice el sp := e
      exact sized_strs hsz (j := 0) (t := 34) (e := 9) (el := el) (sp := sp) rfl (by rw [e']; rfl) Try.underlying34 (by rw [hl]; exact List.mem_map.2 ⟨s, hs, rfl⟩)
  refine (walk W A0 c0 ls hls hsl a1 (by omega) (by omega) (by omega)).mono fun e W' ⟨he, hg0⟩ => ?_
  subst he
  have hg := hg0.below (fun _ _ f => f)
  exact ⟨_, rfl, _, _, _, [], _, [], hW', trodAll_cons_mk (shut_bool Try.underlying4 _) trodAll_mk0, trodAll_stays laidOut hg (by kernel_rfl) hA2 (by simpa using hlt), rfl, hg.frame _, fun h => by cases h⟩

theorem over : Rows.symtabBackRow.holds Try.pinned (OpenSpec.ofChange Rows.symtabBackSpec) :=
  OpenClaim.holds_of_wide 4 Try.f4 rfl rfl rfl rfl rfl rfl rfl ⟨rfl, rfl, rfl, rfl, rfl⟩ rfl rfl rfl rfl rfl (by kernel_rfl) Try.func4 (by kernel_rfl)
    (of_decide_eq_true (by kernel_rfl)) (by unfold Func.isWrapper; first | (rw [if_pos (by decide +kernel)]; kernel_rfl) | (rw [if_neg (by decide +kernel)]; exact ⟨rfl, rfl⟩))
    (fun os started H enc _ => lifted os started H enc)

theorem proved : Rows.SymtabBackSaid :=
  over
#print axioms proved
end Go.Proofs.Ythelafgdegkkkaa.symtabBack
