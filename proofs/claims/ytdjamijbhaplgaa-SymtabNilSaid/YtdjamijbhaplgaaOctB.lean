/- octet: the reader: sound, stops, Num. -/
import Derived.Test.YtdjamijbhaplgaaOctA
import Derived.Test.YtdjamijbhaplgaaOctP
import Derived.WalkMore
import Derived.Test.YtdjamijbhaplgaaBits
namespace Go.Proofs.Ytdjamijbhaplgaa
open Go.RowKit

set_option maxHeartbeats 1000000 in
theorem sound_nil (w : World) :
    Calls Try.prog 53 #[.pointer none] w fun e w' => e = .returned (.bool false) ∧ w = w' := by
  go_enter Try.func53, Try.ntmps53
  go_wp2
  go_ret
  exact ⟨rfl, rfl⟩

set_option maxHeartbeats 1000000 in
theorem sound_some (w : World) (b : Nat) (e : Int) (h : w.cell? ⟨b, 2, none⟩ = some (.int .i64 e)) :
    Calls Try.prog 53 #[.pointer (some ⟨b, 0, none⟩)] w fun e' w' => e' = .returned (.bool (e == 0)) ∧ w = w' := by
  go_enter Try.func53, Try.ntmps53
  go_wp2
  go_ret
  exact ⟨rfl, rfl⟩

set_option maxHeartbeats 1000000 in
theorem stops_some (w : World) (b : Nat) (e s : Int) (p x y z : Value) (h : w.heap[b]? = some (.cells #[p, x, y, z] 106 (0, 0))) :
    Calls Try.prog 54 #[.pointer (some ⟨b, 0, none⟩), .int .i64 e, .int .i64 s] w fun e' w' => e' = .returned (.tuple #[]) ∧ Keeps (OneB b) w w' ∧ w'.heap[b]? = some (.cells #[p, .int .i64 s, .int .i64 e, .int .i64 s] 106 (0, 0)) := by
  have h1 : w.cell? ⟨b, 1, none⟩ = some x := blk_cell h 1
  have h2 : w.cell? ⟨b, 2, none⟩ = some y := blk_cell h 2
  have h3 : w.cell? ⟨b, 3, none⟩ = some z := blk_cell h 3
  have f1 := blk_frozen h 1
  have f2 := blk_frozen h 2
  have f3 := blk_frozen h 3
  have H := Sd.mk h
  clear h
  go_enter Try.func54, Try.ntmps54
  go_wp2
  go_end0
  exact ⟨rfl, (((Keeps.refl (OneB b) w).setCell ⟨b, 2, none⟩ _ (fun _ => rfl)).setCell ⟨b, 3, none⟩ _ (fun _ => rfl)).setCell ⟨b, 1, none⟩ _ (fun _ => rfl), blk_set (blk_set (blk_set H.o 2 _) 3 _) 1 _⟩

/-- The reader in block b, in a state. -/
structure IsRd (w : World) (b : Nat) (s : RSt) (A : Option Addr) (c : Nat) : Prop where
  blk : w.heap[b]? = some (.cells #[.slice A s.p.length c, .int .i64 s.pos, .int .i64 s.err, .int .i64 s.spot] 106 (0, 0))
  bts : Bts w (.slice A s.p.length c) s.p
  off : Off (OneB b) (.slice A s.p.length c)
  pos : s.pos ≤ s.p.length
  spot : s.spot ≤ s.p.length
  lo : -9223372036854775808 ≤ s.err
  hi : s.err ≤ 9223372036854775807

theorem IsRd.len {w : World} {b : Nat} {s : RSt} {A : Option Addr} {c : Nat} (h : IsRd w b s A c) : s.p.length ≤ 9223372036854775807 := by
  have := h.bts.rd
  unfold maxLen at this
  omega

theorem num_err {w w' : World} {b : Nat} {p : List UInt8} {pos spot : Nat} {A : Option Addr} {c : Nat} {E : Int} (h : IsRd w b ⟨p, pos, 0, spot⟩ A c) (hk : Keeps (OneB b) w w')
    (hb : w'.heap[b]? = some (.cells #[.slice A p.length c, .int .i64 pos, .int .i64 E, .int .i64 pos] 106 (0, 0))) (h0 : -9223372036854775808 ≤ E) (h1 : E ≤ 9223372036854775807) : IsRd w' b ⟨p, pos, E, pos⟩ A c :=
  ⟨hb, h.bts.keeps hk h.off.r, h.off, h.pos, h.pos, h0, h1⟩
theorem num_ok {w : World} {b : Nat} {p : List UInt8} {pos spot : Nat} {A : Option Addr} {c : Nat} (h : IsRd w b ⟨p, pos, 0, spot⟩ A c) (w' : World) (hw : w'.heap = w.heap) (k : Nat) (hl : pos + k ≤ p.length) (v : Int) (hv : v = ((pos + k : Nat) : Int)) :
    IsRd (w'.setCell ⟨b, 1, none⟩ (.int .i64 v)) b ⟨p, pos + k, 0, spot⟩ A c := by
  subst hv
  have hk : Keeps (OneB b) w' (w'.setCell ⟨b, 1, none⟩ (.int .i64 ((pos + k : Nat) : Int))) := (Keeps.refl (OneB b) w').setCell ⟨b, 1, none⟩ _ (fun _ => rfl)
  have hbt : Bts w' (.slice A p.length c) p := by
    obtain ⟨A', c', e, h1, h2, h3, h4, h5⟩ := h.bts
    exact ⟨A', c', e, h1, h2, h3, (by rw [hw]; exact h4), fun i hi => by obtain ⟨b', o', e', hc⟩ := h5 i hi; exact ⟨b', o', e', by rw [← hc]; simp [World.cell?, hw]⟩⟩
  exact ⟨blk_set (by rw [hw]; exact h.blk) 1 _, hbt.keeps hk h.off.r, h.off, hl, h.spot, h.lo, h.hi⟩
set_option maxHeartbeats 2000000 in
set_option maxRecDepth 100000 in
theorem num_some (w : World) (b : Nat) (s : RSt) (A : Option Addr) (c : Nat) (h : IsRd w b s A c) :
    Calls Try.prog 65 #[.pointer (some ⟨b, 0, none⟩)] w fun e' w' => e' = .returned (.int .u64 s.num.1) ∧ IsRd w' b s.num.2 A c ∧ Keeps (OneB b) w w' := by
  have h0 : w.cell? ⟨b, 0, none⟩ = some (.slice A s.p.length c) := blk_cell h.blk 0
  have h1 : w.cell? ⟨b, 1, none⟩ = some (.int .i64 s.pos) := blk_cell h.blk 1
  have h2 : w.cell? ⟨b, 2, none⟩ = some (.int .i64 s.err) := blk_cell h.blk 2
  have f1 := blk_frozen h.blk 1
  have hm := h.len
  have hl := h.pos
  have H := Sd.mk h
  have HR := Sd.mk h.bts.rd.2.2.2.2.2
  clear h
  obtain ⟨p, pos, err, spot⟩ := s
  dsimp only at *
  by_cases he : err = 0
  case neg =>
    have hb : (err == 0) = false := by simpa using he
    have hfin : Sd (RSt.num ⟨p, pos, err, spot⟩ = (0, ⟨p, pos, err, spot⟩)) := ⟨by simp [RSt.num, he]⟩
    go_enter Try.func65, Try.ntmps65
    go_wp2_with fail
    go_step3
    go_wp2_with (go_at_call 53; refine (sound_some _ _ _ h2).mono ?_; rintro e w' ⟨rfl, rfl⟩)
    try rw [Exit.noGoto_ret]
    go_ret
    rw [hfin.o]
    exact ⟨rfl, H.o, Keeps.refl _ _⟩
  case pos =>
  subst he
  obtain ⟨R, hR⟩ : ∃ R, R = rdVar (p.drop pos) 0 0 := ⟨_, rfl⟩
  obtain ⟨Re, Rn, Rk⟩ := R
  have hfin : Sd (RSt.num ⟨p, pos, 0, spot⟩ = if Re = 0 then (Rn, ⟨p, pos + Rk, 0, spot⟩) else (0, ⟨p, pos, Re, pos⟩)) := ⟨by simp [RSt.num, ← hR]⟩
  have HRR := Sd.mk hR
  clear hR
  go_enter Try.func65, Try.ntmps65
  go_wp2_with fail
  go_step3
  go_wp2_with (go_at_call 53; refine (sound_some _ _ _ h2).mono ?_; rintro e w' ⟨rfl, rfl⟩)
  go_step3
  go_wp2_with fail
  go_loopg [3, 4, 5] 10 (fun gk v wrong i wr => ∃ (k acc m : Nat), gk + k = 10 ∧ k ≤ 9 ∧ wrong = .int .i64 0 ∧ i = .int .i64 k ∧ v = .int .u64 acc ∧ acc < 2 ^ (7 * k) ∧ pos + k ≤ p.length ∧ Sd (wr = w.drewN m) ∧ Sd ((Re, Rn, Rk) = rdVar (p.drop (pos + k)) k acc))
  case atStart => exact ⟨0, 0, 0, rfl, by omega, rfl, rfl, rfl, by simp, by omega, ⟨rfl⟩, HRR⟩
  case round =>
    clear HRR
    obtain ⟨k, acc, m, hk, hk9, rfl, rfl, rfl, hacc, hle, ⟨rfl⟩, HRR⟩ := hrel
    by_cases hlt : pos + k = p.length
    · have hne : ((pos : Int) + (k : Int) == (p.length : Int)) = true := by simp; omega
      have hR : (Re, Rn, Rk) = (3, 0, 0) := by rw [HRR.o, List.drop_of_length_le (by omega)]; rfl
      have HR3 := Sd.mk hR
      clear hR
      go_wp2_with fail
      go_quiet (fail)
      go_wp2_with (go_at_call 54; refine (stops_some _ b _ _ _ _ _ _ (by exact H.o.blk)).mono ?_; rintro e w' ⟨rfl, HK, HB⟩)
      try rw [Exit.noGoto_ret]
      go_ret
      cases HR3.o
      rw [hfin.o, if_neg (by decide)]
      exact ⟨rfl, num_err H.o HK.undrew HB (by decide) (by decide), HK.undrew⟩
    · obtain ⟨bp, op, rfl, hc⟩ := HR.o (pos + k) (by omega)
      have hc' : w.cell? ⟨bp, op + (pos + k), none⟩ = some (.int .u8 (p[pos+k].toNat : Int)) := hc
      have hdrop : p.drop (pos + k) = p[pos+k] :: p.drop (pos + (k + 1)) := by rw [List.drop_eq_getElem_cons (by omega)]; rfl
      have HD := Sd.mk hdrop
      clear hc hdrop
      generalize p[pos+k] = cc at *
      have hne : ((pos : Int) + (k : Int) == (p.length : Int)) = false := by simp; omega
      have hi0 : (0 : Int) ≤ (pos : Int) + (k : Int) := by omega
      have hi1 : (pos : Int) + (k : Int) < (p.length : Int) := by omega
      have htn : ((pos : Int) + (k : Int)).toNat = pos + k := by omega
      go_wp2_with fail
      go_quiet (fail)
      go_wp2_with fail
      go_quiet (fail)
      have hcc : cc.toNat < 256 := cc.toNat_lt
      by_cases c1 : 9 ≤ k ∧ 1 < cc.toNat
      · have hR : (Re, Rn, Rk) = (10, 0, 0) := by rw [HRR.o, HD.o, rdVar, if_pos c1]
        have HR3 := Sd.mk hR
        clear hR
        obtain ⟨c1, c1'⟩ := c1
        go_wp2_with (go_at_call 54; refine (stops_some _ b _ _ _ _ _ _ (by exact H.o.blk)).mono ?_; rintro e w' ⟨rfl, HK, HB⟩)
        try rw [Exit.noGoto_ret]
        go_ret
        cases HR3.o
        rw [hfin.o, if_neg (by decide)]
        exact ⟨rfl, num_err H.o HK.undrew HB (by decide) (by decide), HK.undrew⟩
      by_cases c2 : cc.toNat = 0 ∧ 0 < k
      · have hR : (Re, Rn, Rk) = (11, 0, 0) := by rw [HRR.o, HD.o, rdVar, if_neg c1, if_pos c2]
        have HR3 := Sd.mk hR
        clear hR
        obtain ⟨c2, c2'⟩ := c2
        by_cases c9 : 9 ≤ k
        all_goals
          go_wp2_with (go_at_call 54; refine (stops_some _ b _ _ _ _ _ _ (by exact H.o.blk)).mono ?_; rintro e w' ⟨rfl, HK, HB⟩)
          try rw [Exit.noGoto_ret]
          go_ret
          cases HR3.o
          rw [hfin.o, if_neg (by decide)]
          exact ⟨rfl, num_err H.o HK.undrew HB (by decide) (by decide), HK.undrew⟩
      by_cases c3 : cc.toNat < 128
      · have hR : (Re, Rn, Rk) = (0, acc + (cc.toNat % 128) * 2 ^ (7 * k), k + 1) := by rw [HRR.o, HD.o, rdVar, if_neg c1, if_neg c2, if_pos c3]
        have HR3 := Sd.mk hR
        have h9 : k = 9 → cc.toNat ≤ 1 := by omega
        have H9 := Sd.mk h9
        clear hR h9
        by_cases c0 : cc.toNat = 0
        · have ck : k = 0 := by omega
          have H0 := Sd.mk c0
          have ck0 : ¬ 0 < k := by omega
          have ck9 : k < 9 := by omega
          clear ck
          go_wp2_with fail
          try rw [Exit.noGoto_ret]
          go_ret
          cases HR3.o
          rw [hfin.o, if_pos rfl]
          exact ⟨ret_int (by rw [or_step0 acc k hacc hk9, H0.o]; simp), (by refine num_ok H.o _ ?_ _ ?_ _ ?_; rfl; omega; omega), ((Keeps.refl (OneB b) w).drewN _).setCell ⟨b, 1, none⟩ _ (fun _ => rfl)⟩
        · by_cases c9 : 9 ≤ k
          all_goals
            go_wp2_with fail
            try rw [Exit.noGoto_ret]
            go_ret
            cases HR3.o
            rw [hfin.o, if_pos rfl]
            exact ⟨ret_int (or_step acc k _ hacc hk9 hcc H9.o), (by refine num_ok H.o _ ?_ _ ?_ _ ?_; rfl; omega; omega), ((Keeps.refl (OneB b) w).drewN _).setCell ⟨b, 1, none⟩ _ (fun _ => rfl)⟩
      · have c4 : k < 9 := by omega
        have hR : (Re, Rn, Rk) = rdVar (p.drop (pos + (k + 1))) (k + 1) (acc + (cc.toNat % 128) * 2 ^ (7 * k)) := by rw [HRR.o, HD.o, rdVar, if_neg c1, if_neg c2, if_neg c3]
        have HR3 := Sd.mk hR
        clear hR
        go_wp2_with fail
        go_roundg (gk - 1)
        case measure => omega
        case rel => exact ⟨k + 1, acc + (cc.toNat % 128) * 2 ^ (7 * k), _, by omega, by omega, rfl, by go_num, by rw [or_step acc k _ hacc hk9 hcc (by omega)], acc_lt _ _ _ hacc, by omega, ⟨rfl⟩, HR3⟩
end Go.Proofs.Ytdjamijbhaplgaa
