/- SymtabFiles: for every string, every capacity and every list of acts the law returns true and leaves its arguments as they were. No condition. -/
import Derived.ChangeMaps5
import Derived.Test.YtdjamijbhaplgaaGreatGkag
import Derived.Test.YtdjamijbhaplgaaGreatSymFw
namespace Go.Proofs.YtdjamijbhaplgaaGreat.symtabFiles
open Go.RowKit Go.ChangeShapes Go.WideShapes Go.ChangeAt Go.ChangeMaps

theorem own : ownKnob Tryz.checked.prog.godebug = none := by kernel_rfl

set_option maxRecDepth 100000 in
theorem lifted (os : Os) (started : os.Started) (H : Type) (enc : TypeId × Value → H) :
    ReturnsInHanded {} Tryz.checked os 3 .any (Rows.symtabFilesSpec.pre6 enc Tryz.prog Tryz.f3 Rows.symtabFilesRow.domain false) (Rows.symtabFilesSpec.post enc Tryz.prog Tryz.f3 false true false false) := by
  refine returnsInHanded_of_change_sized (C := Tryz.checked) own started (by kernel_rfl) Tryz.func3
    (ChangeSpec.witness6 (enc := enc) (C := Tryz.checked) false ⟨#[], #[.string ⟨#[]⟩, .int .i64 0, .slice none 0 0], []⟩ 8 (by kernel_rfl) (by kernel_rfl) (by kernel_rfl) (by kernel_rfl)) ?_
  intro W base args ds gs before hval0 hW hcnd hsz _
  have hval : ∀ (j : Nat) t v, Tryz.f3.params[j]? = some t → args[j]? = some v → Value.okWide Tryz.prog W .any base t v := hval0
  have hW' := hW
  obtain ⟨p, q, hA0, hV, rfl, hfz, hnd⟩ := hW
  have hA : DataW.TrodAll enc Tryz.prog W 0 (fun _ => true) true Tryz.f3.params.toList args.toList ds p := hA0
  rw [Tryz.params3] at hA hval
  have hA2 := hA
  obtain ⟨v0, vs0, d0, ds0, p0, q0, hargs, rfl, rfl, h0, r0⟩ := trodAll_cons hA
  obtain ⟨v1, vs1, d1, ds1, p1, q1, rfl, rfl, rfl, h1, r1⟩ := trodAll_cons r0
  obtain ⟨v2, vs2, d2, ds2, p2, q2, rfl, rfl, rfl, h2, r2⟩ := trodAll_cons r1
  obtain ⟨rfl, rfl, rfl⟩ := trodAll_nil r2
  obtain rfl : args = #[v0, v1, v2] := by cases args; simp_all
  obtain ⟨rfl, rfl⟩ := trodVars_none hV
  clear hA0 hval0 r0 r1 r2 hA hargs
  have hval0 := hval 0 9 v0 rfl rfl
  have hval1 := hval 1 3 v1 rfl rfl
  obtain ⟨A, n, c, rfl⟩ := okWide_slice Tryz.underlying22 (hval 2 22 v2 rfl rfl)
  clear hval
  simp only [List.append_nil] at hW' hsz
  have hlt : ∀ x ∈ p0 ++ (p1 ++ p2), x.block < W.heap.size := fun x hx => by
    have := hW'.lt x hx
    simpa using this
  obtain ⟨S, rfl, rfl, rfl, hS⟩ := open_string Tryz.underlying9 hval0 h0
  obtain ⟨cap, rfl, rfl, rfl, w1⟩ := open_int Tryz.underlying3 hval1 h1
  obtain ⟨f2, h2⟩ := h2
  have h2' : DataW.trod enc Tryz.prog W 0 (fun _ => true) true f2 22 [.slice A n c] = some (d2, p2) := h2
  obtain ⟨l, rfl, hA, hG, hlm⟩ := op_sacts h2' (fun m hm => by
    have := List.all_eq_true.1 hsz m (DataW.weights_mem_each (j := 2) (t := 22) (d := d2) rfl rfl m hm)
    simpa using this)
  have hmax : maxLen = 9223372036854775807 := rfl
  refine (files_walk W S cap A c l hA hG (by omega) (by omega)).mono fun e W' ⟨he, hg0⟩ => ?_
  subst he
  have hg := hg0.below (fun _ _ f => f)
  exact ⟨_, rfl, _, _, _, [], _, [], hW', trodAll_cons_mk (shut_bool Tryz.underlying4 _) trodAll_mk0, trodAll_stays laidOut hg (by kernel_rfl) hA2 (fun x hx => hlt x (by simpa using hx)), rfl, hg.frame _, fun h => by cases h⟩

theorem over : Rows.symtabFilesRow.holds Tryz.pinned (OpenSpec.ofChange Rows.symtabFilesSpec) :=
  OpenClaim.holds_of_wide 3 Tryz.f3 rfl rfl rfl rfl rfl rfl rfl ⟨rfl, rfl, rfl, rfl, rfl⟩ rfl rfl rfl rfl rfl (by kernel_rfl) Tryz.func3 (by kernel_rfl)
    (of_decide_eq_true (by kernel_rfl)) (by unfold Func.isWrapper; first | (rw [if_pos (by decide +kernel)]; kernel_rfl) | (rw [if_neg (by decide +kernel)]; exact ⟨rfl, rfl⟩))
    (fun os started H enc _ => lifted os started H enc)

theorem proved : Rows.SymtabFilesSaid :=
  over
#print axioms proved
end Go.Proofs.YtdjamijbhaplgaaGreat.symtabFiles
