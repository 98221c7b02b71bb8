/- SymtabNil: for every string and int the law returns true and leaves its arguments as they were. No condition. -/
import Derived.Test.YtdjamijbhaplgaaEnd
import Derived.Test.YtdjamijbhaplgaaSymNi
import Derived.ChangeMaps5
namespace Go.Proofs.Ytdjamijbhaplgaa.symtabNil
open Go.RowKit Go.ChangeShapes Go.WideShapes Go.ChangeAt Go.ChangeMaps

theorem own : ownKnob Try.checked.prog.godebug = none := by kernel_rfl

set_option maxRecDepth 100000 in
theorem lifted (os : Os) (started : os.Started) (H : Type) (enc : TypeId × Value → H) :
    ReturnsInHanded {} Try.checked os 3 .any (Rows.symtabNilSpec.pre6 enc Try.prog Try.f3 Rows.symtabNilRow.domain false) (Rows.symtabNilSpec.post enc Try.prog Try.f3 false true false false) := by
  refine returnsInHanded_of_change_sized (C := Try.checked) own started (by kernel_rfl) Try.func3
    (ChangeSpec.witness6 (enc := enc) (C := Try.checked) false ⟨#[], #[.string ⟨#[]⟩, .int .i64 0], []⟩ 8 (by kernel_rfl) (by kernel_rfl) (by kernel_rfl) (by kernel_rfl)) ?_
  intro W base args ds gs before hval0 hW hcnd hsz _
  have hval : ∀ (j : Nat) t v, Try.f3.params[j]? = some t → args[j]? = some v → Value.okWide Try.prog W .any base t v := hval0
  have hW' := hW
  obtain ⟨p, q, hA0, hV, rfl, hfz, hnd⟩ := hW
  have hA : DataW.TrodAll enc Try.prog W 0 (fun _ => true) true Try.f3.params.toList args.toList ds p := hA0
  rw [Try.params3] at hA hval
  have hA2 := hA
  obtain ⟨v0, vs0, d0, ds0, p0, q0, hargs, rfl, rfl, h0, r0⟩ := trodAll_cons hA
  obtain ⟨v1, vs1, d1, ds1, p1, q1, rfl, rfl, rfl, h1, r1⟩ := trodAll_cons r0
  obtain ⟨rfl, rfl, rfl⟩ := trodAll_nil r1
  obtain rfl : args = #[v0, v1] := by cases args; simp_all
  obtain ⟨rfl, rfl⟩ := trodVars_none hV
  clear hA0 hval0 r0 r1 hA hargs
  have hval0 := hval 0 9 v0 rfl rfl
  have hval1 := hval 1 3 v1 rfl rfl
  clear hval
  simp only [List.append_nil] at hW' hsz
  have hlt : ∀ x ∈ p0 ++ p1, x.block < W.heap.size := fun x hx => by
    have := hW'.lt x hx
    simpa using this
  obtain ⟨S, rfl, rfl, rfl, hS⟩ := open_string Try.underlying9 hval0 h0
  obtain ⟨a1, rfl, rfl, rfl, w1⟩ := open_int Try.underlying3 hval1 h1
  have hmax : maxLen = 9223372036854775807 := rfl
  refine (sym_nil_walk W S (by omega) a1).mono fun e W' ⟨he, hg0⟩ => ?_
  subst he
  have hg := hg0.below (fun _ _ f => f)
  exact ⟨_, rfl, _, _, _, [], _, [], hW', trodAll_cons_mk (shut_bool Try.underlying4 _) trodAll_mk0, trodAll_stays laidOut hg (by kernel_rfl) hA2 (by simp), rfl, hg.frame _, fun h => by cases h⟩

theorem over : Rows.symtabNilRow.holds Try.pinned (OpenSpec.ofChange Rows.symtabNilSpec) :=
  OpenClaim.holds_of_wide 3 Try.f3 rfl rfl rfl rfl rfl rfl rfl ⟨rfl, rfl, rfl, rfl, rfl⟩ rfl rfl rfl rfl rfl (by kernel_rfl) Try.func3 (by kernel_rfl)
    (of_decide_eq_true (by kernel_rfl)) (by unfold Func.isWrapper; first | (rw [if_pos (by decide +kernel)]; kernel_rfl) | (rw [if_neg (by decide +kernel)]; exact ⟨rfl, rfl⟩))
    (fun os started H enc _ => lifted os started H enc)

theorem proved : Rows.SymtabNilSaid :=
  over
#print axioms proved
end Go.Proofs.Ytdjamijbhaplgaa.symtabNil
