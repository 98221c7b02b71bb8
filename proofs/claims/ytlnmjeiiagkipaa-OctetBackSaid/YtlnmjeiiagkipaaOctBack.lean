/- OctetBack: for every slice of uint64s, of int64s, of strings and of bytes the law returns true and leaves its arguments as they were. No condition. -/
import Derived.Test.YtlnmjeiiagkipaaEnd
import Derived.Test.YtlnmjeiiagkipaaWBack
namespace Go.Proofs.Ytlnmjeiiagkipaa.octetBack
open Go.RowKit Go.ChangeShapes Go.WideShapes Go.ChangeAt

theorem own : ownKnob Try.checked.prog.godebug = none := by kernel_rfl

set_option maxRecDepth 100000 in
theorem lifted (os : Os) (started : os.Started) (H : Type) (enc : TypeId × Value → H) :
    ReturnsInHanded {} Try.checked os 5 .any (Rows.octetBackSpec.pre6 enc Try.prog Try.f5 Rows.octetBackRow.domain false) (Rows.octetBackSpec.post enc Try.prog Try.f5 false true false false) := by
  refine returnsInHanded_of_change_sized (C := Try.checked) own started (by kernel_rfl) Try.func5
    (ChangeSpec.witness6 (enc := enc) (C := Try.checked) false ⟨#[], #[.slice none 0 0, .slice none 0 0, .slice none 0 0, .slice none 0 0], []⟩ 8 (by kernel_rfl) (by kernel_rfl) (by kernel_rfl) (by kernel_rfl)) ?_
  intro W base args ds gs before hval0 hW hcnd hsz _
  have hval : ∀ (j : Nat) t v, Try.f5.params[j]? = some t → args[j]? = some v → Value.okWide Try.prog W .any base t v := hval0
  have hW' := hW
  obtain ⟨p, q, hA0, hV, rfl, hfz, hnd⟩ := hW
  have hA : DataW.TrodAll enc Try.prog W 0 (fun _ => true) true Try.f5.params.toList args.toList ds p := hA0
  rw [Try.params5] at hA hval
  have hA2 := hA
  obtain ⟨v0, vs0, d0, ds0, p0, q0, hargs, rfl, rfl, h0, r0⟩ := trodAll_cons hA
  obtain ⟨v1, vs1, d1, ds1, p1, q1, rfl, rfl, rfl, h1, r1⟩ := trodAll_cons r0
  obtain ⟨v2, vs2, d2, ds2, p2, q2, rfl, rfl, rfl, h2, r2⟩ := trodAll_cons r1
  obtain ⟨v3, vs3, d3, ds3, p3, q3, rfl, rfl, rfl, h3, r3⟩ := trodAll_cons r2
  obtain ⟨rfl, rfl, rfl⟩ := trodAll_nil r3
  obtain rfl : args = #[v0, v1, v2, v3] := by cases args; simp_all
  obtain ⟨rfl, rfl⟩ := trodVars_none hV
  clear hA0 hval0 r0 r1 r2 r3 hA hargs
  obtain ⟨A1, n1, c1, rfl⟩ := okWide_slice Try.underlying33 (hval 0 33 v0 rfl rfl)
  obtain ⟨A2, n2, c2, rfl⟩ := okWide_slice Try.underlying34 (hval 1 34 v1 rfl rfl)
  obtain ⟨A3, n3, c3, rfl⟩ := okWide_slice Try.underlying35 (hval 2 35 v2 rfl rfl)
  obtain ⟨A0, n0, c0, rfl⟩ := okWide_slice Try.underlying22 (hval 3 22 v3 rfl rfl)
  clear hval
  simp only [List.append_nil] at hW' hsz
  have hlt : ∀ x ∈ p0 ++ (p1 ++ (p2 ++ p3)), x.block < W.heap.size := fun x hx => by
    have := hW'.lt x hx
    simpa using this
  obtain ⟨f0, h0⟩ := h0
  obtain ⟨f1, h1⟩ := h1
  obtain ⟨f2, h2⟩ := h2
  obtain ⟨f3, h3⟩ := h3
  obtain ⟨⟨bs, rfl, hb⟩, hbc⟩ := op_bytes h3
  obtain ⟨ns, rfl, hns, hnb, hnl⟩ := op_u64s h0
  obtain ⟨is, rfl, his, hib, hil⟩ := op_i64s h1
  obtain ⟨ls, rfl, hls, hll, hle⟩ := op_strs h2
  have hmax : maxLen = 9223372036854775807 := rfl
  have hrb : reachBytes = 140737488351232 := rfl
  have hc := hb.rd.2.1
  have hcm := hb.rd.2.2.1
  have hbl : bs.length ≤ 140737488351232 := by
    rcases hbc with rfl | ⟨el, sp, e, hl⟩
    · omega
    · have e' : d3 = .slice el sp := e
      have := sized_slice hsz (j := 3) (t := 22) (e := 5) (elems := el) (spare := sp) rfl (by rw [e']; rfl) Try.underlying22
      rw [show Try.checked.prog.bytesOf 5 = 1 from bytes8] at this
      omega
  have hsl : ∀ s ∈ ls, s.length ≤ 140737488351232 := fun s hs => by
    rcases hle with ⟨_, hn⟩ | ⟨el, sp, e, hl⟩
    · rw [List.eq_nil_of_length_eq_zero hn] at hs
      cases hs
    · have e' : d2 = .slice el sp := e
      exact sized_strs hsz (j := 2) (t := 35) (e := 9) (el := el) (sp := sp) rfl (by rw [e']; rfl) Try.underlying35 (by rw [hl]; exact List.mem_map.2 ⟨s, hs, rfl⟩)
  refine (walk W A0 c0 bs hb A1 c1 ns hns hnb A2 c2 is his hib A3 c3 ls hls hsl (by omega) (by omega) (by omega) (by omega) hbl).mono fun e W' ⟨he, hg0⟩ => ?_
  subst he
  have hg := hg0.below (fun _ _ f => f)
  exact ⟨_, rfl, _, _, _, [], _, [], hW', trodAll_cons_mk (shut_bool Try.underlying4 _) trodAll_mk0, trodAll_stays laidOut hg (by kernel_rfl) hA2 (by simpa using hlt), rfl, hg.frame _, fun h => by cases h⟩

theorem over : Rows.octetBackRow.holds Try.pinned (OpenSpec.ofChange Rows.octetBackSpec) :=
  OpenClaim.holds_of_wide 5 Try.f5 rfl rfl rfl rfl rfl rfl rfl ⟨rfl, rfl, rfl, rfl, rfl⟩ rfl rfl rfl rfl rfl (by kernel_rfl) Try.func5 (by kernel_rfl)
    (of_decide_eq_true (by kernel_rfl)) (by unfold Func.isWrapper; first | (rw [if_pos (by decide +kernel)]; kernel_rfl) | (rw [if_neg (by decide +kernel)]; exact ⟨rfl, rfl⟩))
    (fun os started H enc _ => lifted os started H enc)

theorem proved : Rows.OctetBackSaid :=
  over
#print axioms proved
end Go.Proofs.Ytlnmjeiiagkipaa.octetBack
