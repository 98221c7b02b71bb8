/- simfs: Same. -/
import Derived.Test.YtlhhcoijkjcneaaGreatGc
namespace Go.Proofs.YtlhhcoijkjcneaaGreat
open Go.RowKit Go.Maps Go.Lib

theorem FSt.same_refl (s : FSt) (ok : FsOk s) : s.same s = true := by
  unfold FSt.same
  rw [alikeS_refl s s.D ok.dirD.names, alikeS_refl s s.S ok.dirS.names, mAll_refl]
  rfl
set_option maxHeartbeats 4000000 in
set_option maxRecDepth 100000 in
theorem same_any (w : World) (m1 m2 : FsMem) (s1 s2 : FSt) (h1 : IsFS w m1 s1) (h2 : IsFS w m2 s2) (ok1 : FsOk s1) (ok2 : FsOk s2) (n1 : s1.F.length ≤ 4611686018427387904) (n2 : s2.F.length ≤ 4611686018427387904) :
    Calls Tryz.prog 18 #[.pointer (some ⟨m1.b, 0, none⟩), .pointer (some ⟨m2.b, 0, none⟩)] w fun e w' => e = .returned (.bool (s1.same s2)) ∧ Keeps NoB w w' := by
  have CA : Sd (∀ wx, Keeps NoB w wx → Calls Tryz.prog 41 #[.pointer (some ⟨m1.b, 0, none⟩), .map (some m1.mn), .pointer (some ⟨m2.b, 0, none⟩), .map (some m2.mn), .bool true] wx fun e w' => e = .returned (.bool (alikeS s1 s1.D s2 s2.D true)) ∧ Keeps NoB wx w') := ⟨fun wx hk =>
    alike_any wx m1 m2 s1 s2 (h1.kept hk) (h2.kept hk) s1.D s2.D m1.mn m2.mn (h1.kept hk).names (h2.kept hk).names ok1.dirD.names h1.has.1 h2.has.1 (fun e he => Nat.le_trans (ok1.dirD.low e he).2 n1) (fun e he => Nat.le_trans (ok2.dirD.low e he).2 n2) true⟩
  have CB : Sd (∀ wx, Keeps NoB w wx → Calls Tryz.prog 41 #[.pointer (some ⟨m1.b, 0, none⟩), .map (some m1.ms), .pointer (some ⟨m2.b, 0, none⟩), .map (some m2.ms), .bool false] wx fun e w' => e = .returned (.bool (alikeS s1 s1.S s2 s2.S false)) ∧ Keeps NoB wx w') := ⟨fun wx hk =>
    alike_any wx m1 m2 s1 s2 (h1.kept hk) (h2.kept hk) s1.S s2.S m1.ms m2.ms (h1.kept hk).safe (h2.kept hk).safe ok1.dirS.names h1.has.2.1 h2.has.2.1 (fun e he => Nat.le_trans (ok1.dirS.low e he).2 n1) (fun e he => Nat.le_trans (ok2.dirS.low e he).2 n2) false⟩
  have CC : Sd (∀ wx, Keeps NoB w wx → Calls Tryz.prog 42 #[m1.mv, m2.mv, .func (.func 43) #[] #[]] wx fun e w' => e = .returned (.bool (mAll s1.M s2.M)) ∧ Keeps NoB wx w') := ⟨fun wx hk =>
    eqM_any wx m1.mv m2.mv s1.M s2.M (h1.kept hk).moves (h2.kept hk).moves⟩
  have HC : Sd (∀ wx, Keeps NoB w wx → wx.cell? ⟨m1.b, 2, none⟩ = some (.map (some m1.mn)) ∧ wx.cell? ⟨m1.b, 3, none⟩ = some (.map (some m1.ms)) ∧ wx.cell? ⟨m1.b, 4, none⟩ = some m1.mv ∧
      wx.cell? ⟨m2.b, 2, none⟩ = some (.map (some m2.mn)) ∧ wx.cell? ⟨m2.b, 3, none⟩ = some (.map (some m2.ms)) ∧ wx.cell? ⟨m2.b, 4, none⟩ = some m2.mv) := ⟨fun wx hk => by
    have a := (h1.kept hk).c
    have b := (h2.kept hk).c
    exact ⟨a.2.2.1, a.2.2.2.1, a.2.2.2.2.1, b.2.2.1, b.2.2.2.1, b.2.2.2.2.1⟩⟩
  have hS : Sd (s1.same s2 = (alikeS s1 s1.D s2 s2.D true && alikeS s1 s1.S s2 s2.S false && mAll s1.M s2.M)) := ⟨rfl⟩
  clear h1 h2 ok1 ok2 n1 n2
  generalize alikeS s1 s1.D s2 s2.D true = bA at *
  generalize alikeS s1 s1.S s2 s2.S false = bB at *
  generalize mAll s1.M s2.M = bC at *
  generalize s1.same s2 = bR at *
  generalize m1.b = x1 at *
  generalize m2.b = x2 at *
  generalize m1.mn = x3 at *
  generalize m2.mn = x4 at *
  generalize m1.ms = x5 at *
  generalize m2.ms = x6 at *
  generalize m1.mv = x7 at *
  generalize m2.mv = x8 at *
  have hsplit : (bA = false) ∨ (bA = true ∧ bB = false) ∨ (bA = true ∧ bB = true) := by cases bA <;> cases bB <;> simp
  rcases hsplit with rfl | ⟨rfl, rfl⟩ | ⟨rfl, rfl⟩
  all_goals
    go_enter Tryz.func18, Tryz.ntmps18
    go_upto_region 3 with fail
    refine wp_region_flow_lit (R := Keeps NoB) (w0 := w) (fun w => Keeps.refl _ w) (fun _ _ _ h k => h.then k) (by kernel_rfl) (by kernel_rfl) (Keeps.refl _ _).drew ?_
    repeat (first
      | (apply flow_skip
         · intro _; rfl
         intro K hK
         go_simp
         refine hK _ ?_
         clear hK K)
      | (apply flow_const
         · intro _; kernel_rfl
         · intro s wx hR hF
           obtain ⟨a0, a1, a2, e0, e1, e2⟩ := HC.o wx hR
           clear hF
           unfold flowAt
           go_simp
           first
             | exact ⟨Keeps.refl _ _, rfl⟩
             | (simp only [flowUpon]
                first
                  | (go_at_call 41
                     first
                       | (with_reducible refine (CA.o wx hR).mono ?_; rintro e w' ⟨rfl, hk⟩; exact ⟨_, rfl, hk, rfl⟩)
                       | (with_reducible refine (CB.o wx hR).mono ?_; rintro e w' ⟨rfl, hk⟩; exact ⟨_, rfl, hk, rfl⟩))
                  | (go_at_call 42
                     refine (CC.o wx hR).mono ?_; rintro e w' ⟨rfl, hk⟩; exact ⟨_, rfl, hk, rfl⟩))
         intro K hK
         go_simp
         refine hK _ ?_
         clear hK K))
    apply flow_nil
    intro s w4 hk4 hF
    clear hF
    go_wp2
    go_ret
    exact ⟨by rw [hS.o]; simp, hk4⟩
end Go.Proofs.YtlhhcoijkjcneaaGreat
