/- SimfsSwitch: for every change the law returns true and leaves its arguments as they were. No condition. -/
import Derived.Test.YtplnneicmdlahaaEnd
import Derived.Test.YtplnneicmdlahaaSimSc
import Derived.ChangeMaps5
namespace Go.Proofs.Ytplnneicmdlahaa.simfsSwitch
open Go.RowKit Go.ChangeShapes Go.WideShapes Go.ChangeAt Go.ChangeMaps

theorem own : ownKnob Try.checked.prog.godebug = none := by kernel_rfl

theorem cellsChange : Try.prog.cellsOf 27 = 5 := by kernel_rfl
set_option maxRecDepth 100000 in
theorem lifted (os : Os) (started : os.Started) (H : Type) (enc : TypeId × Value → H) :
    ReturnsInHanded {} Try.checked os 3 .any (Rows.simfsSwitchSpec.pre6 enc Try.prog Try.f3 Rows.simfsSwitchRow.domain false) (Rows.simfsSwitchSpec.post enc Try.prog Try.f3 false true false false) := by
  refine returnsInHanded_of_change_sized (C := Try.checked) own started (by kernel_rfl) Try.func3
    (ChangeSpec.witness6 (enc := enc) (C := Try.checked) false ⟨#[], #[.agg #[.slice none 0 0, .slice none 0 0, .int .i64 0, .int .i64 0, .slice none 0 0]], []⟩ 8 (by kernel_rfl) (by kernel_rfl) (by kernel_rfl) (by kernel_rfl)) ?_
  intro W base args ds gs before hval0 hW hcnd hsz _
  have hval : ∀ (j : Nat) t v, Try.f3.params[j]? = some t → args[j]? = some v → Value.okWide Try.prog W .any base t v := hval0
  have hW' := hW
  obtain ⟨p, q, hA0, hV, rfl, hfz, hnd⟩ := hW
  have hA : DataW.TrodAll enc Try.prog W 0 (fun _ => true) true Try.f3.params.toList args.toList ds p := hA0
  rw [Try.params3] at hA hval
  have hA2 := hA
  obtain ⟨v0, vs0, d0, ds0, p0, q0, hargs, rfl, rfl, h0, r0⟩ := trodAll_cons hA
  obtain ⟨rfl, rfl, rfl⟩ := trodAll_nil r0
  obtain rfl : args = #[v0] := by cases args; simp_all
  obtain ⟨rfl, rfl⟩ := trodVars_none hV
  clear hA0 hval0 r0 hA hargs
  obtain ⟨cs, rfl, hcs⟩ := okWide_struct Try.underlying27 (hval 0 27 v0 rfl rfl)
  clear hval
  simp only [List.append_nil] at hW' hsz
  have hlt : ∀ x ∈ p0, x.block < W.heap.size := fun x hx => by
    have := hW'.lt x hx
    simpa using this
  obtain ⟨f0, h0⟩ := h0
  have h0' : DataW.trod enc Try.prog W 0 (fun _ => true) true f0 27 cs.toList = some (d0, p0) := h0
  obtain ⟨Ao, co, old, Af, cf, fresh, stop, dir, At, ct, l, he, hb0, hb1, hs, hd, hT, hbd, hlm⟩ := op_change (by rw [Array.length_toList, hcs]; exact cellsChange) h0'
  obtain rfl : cs = #[.slice Ao old.length co, .slice Af fresh.length cf, .int .i64 stop, .int .i64 dir, .slice At l.length ct] := by
    apply Array.ext'
    rw [he]
  have hmax : maxLen = 9223372036854775807 := rfl
  have hc0 := hb0.rd.2.1
  have hc1 := hb0.rd.2.2.1
  have hc2 := hb1.rd.2.1
  have hc3 := hb1.rd.2.2.1
  refine (switch_walk W Ao co old hb0 Af cf fresh hb1 stop dir hs.1 hs.2 hd.1 hd.2 At ct l hT hbd (by omega) (by omega) (by omega)).mono fun e W' ⟨he, hg0⟩ => ?_
  subst he
  have hg := hg0.below (fun _ _ f => f)
  exact ⟨_, rfl, _, _, _, [], _, [], hW', trodAll_cons_mk (shut_bool Try.underlying4 _) trodAll_mk0, trodAll_stays laidOut hg (by kernel_rfl) hA2 (fun x hx => hlt x (by simpa using hx)), rfl, hg.frame _, fun h => by cases h⟩

theorem over : Rows.simfsSwitchRow.holds Try.pinned (OpenSpec.ofChange Rows.simfsSwitchSpec) :=
  OpenClaim.holds_of_wide 3 Try.f3 rfl rfl rfl rfl rfl rfl rfl ⟨rfl, rfl, rfl, rfl, rfl⟩ rfl rfl rfl rfl rfl (by kernel_rfl) Try.func3 (by kernel_rfl)
    (of_decide_eq_true (by kernel_rfl)) (by unfold Func.isWrapper; first | (rw [if_pos (by decide +kernel)]; kernel_rfl) | (rw [if_neg (by decide +kernel)]; exact ⟨rfl, rfl⟩))
    (fun os started H enc _ => lifted os started H enc)

theorem proved : Rows.SimfsSwitchSaid :=
  over
#print axioms proved
end Go.Proofs.Ytplnneicmdlahaa.simfsSwitch
