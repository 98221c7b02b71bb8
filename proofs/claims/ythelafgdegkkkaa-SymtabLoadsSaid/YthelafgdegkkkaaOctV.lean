/- the reference's reader: Fail, Num, Int. -/
import Derived.Test.YthelafgdegkkkaaOctT
import Derived.Test.YthelafgdegkkkaaOctL
namespace Go.Proofs.Ythelafgdegkkkaa
open Go.RowKit

/-- The reference's reader in block b, in a state. -/
structure IsRR (w : World) (b : Nat) (s : RSt) (A : Option Addr) (c : Nat) : Prop where
  blk : w.heap[b]? = some (.cells #[.slice A s.p.length c, .int .i64 s.pos, .int .i64 s.err, .int .i64 s.spot] 86 (0, 0))
  bts : Bts w (.slice A s.p.length c) s.p
  off : Off (OneB b) (.slice A s.p.length c)
  pos : s.pos ≤ s.p.length
  spot : s.spot ≤ s.p.length
  lo : -9223372036854775808 ≤ s.err
  hi : s.err ≤ 9223372036854775807
theorem IsRR.len {w : World} {b : Nat} {s : RSt} {A : Option Addr} {c : Nat} (h : IsRR w b s A c) : s.p.length ≤ 9223372036854775807 := by
  have := h.bts.rd
  unfold maxLen at this
  omega
theorem IsRR.keeps {F : Nat → Prop} {w w' : World} {b : Nat} {s : RSt} {A : Option Addr} {c : Nat} (h : IsRR w b s A c) (k : Keeps F w w') (hb : ¬ F b) (ho : OffR F (.slice A s.p.length c)) : IsRR w' b s A c :=
  ⟨k.obj h.blk hb, h.bts.keeps k ho, h.off, h.pos, h.spot, h.lo, h.hi⟩
theorem IsRR.drewN {w : World} {b : Nat} {s : RSt} {A : Option Addr} {c : Nat} (h : IsRR w b s A c) (n : Nat) : IsRR (w.drewN n) b s A c := ⟨h.blk, h.bts, h.off, h.pos, h.spot, h.lo, h.hi⟩
theorem IsRR.stop {w w' : World} {b : Nat} {s : RSt} {A : Option Addr} {c : Nat} (h : IsRR w b s A c) (k : Keeps (OneB b) w w') (e : Int) (at_ : Nat) (ha : at_ ≤ s.p.length)
    (hb : w'.heap[b]? = some (.cells #[.slice A s.p.length c, .int .i64 at_, .int .i64 e, .int .i64 at_] 86 (0, 0))) (h0 : -9223372036854775808 ≤ e) (h1 : e ≤ 9223372036854775807) : IsRR w' b (s.stop e at_) A c :=
  ⟨hb, h.bts.keeps k h.off.r, h.off, ha, ha, h0, h1⟩
theorem IsRR.move {w : World} {b : Nat} {s : RSt} {A : Option Addr} {c : Nat} (h : IsRR w b s A c) (w' : World) (hw : w'.heap = w.heap) (k : Nat) (hl : k ≤ s.p.length) (v : Int) (hv : v = (k : Int)) :
    IsRR (w'.setCell ⟨b, 1, none⟩ (.int .i64 v)) b { s with pos := k } A c := by
  subst hv
  have hk : Keeps (OneB b) w' (w'.setCell ⟨b, 1, none⟩ (.int .i64 ((k : Nat) : Int))) := (Keeps.refl (OneB b) w').setCell ⟨b, 1, none⟩ _ (fun _ => rfl)
  have hbt : Bts w' (.slice A s.p.length c) s.p := by
    obtain ⟨A', c', e, h1, h2, h3, h4, h5⟩ := h.bts
    exact ⟨A', c', e, h1, h2, h3, (by rw [hw]; exact h4), fun i hi => by obtain ⟨b', o', e', hc⟩ := h5 i hi; exact ⟨b', o', e', by rw [← hc]; simp [World.cell?, hw]⟩⟩
  exact ⟨blk_set (by rw [hw]; exact h.blk) 1 _, hbt.keeps hk h.off.r, h.off, hl, h.spot, h.lo, h.hi⟩

set_option maxHeartbeats 1000000 in
theorem rfail_same (w : World) (b : Nat) (e err at_ : Int) (h : w.cell? ⟨b, 2, none⟩ = some (.int .i64 err)) (hs : err ≠ 0 ∨ e = 0) :
    Calls Try.prog 47 #[.pointer (some ⟨b, 0, none⟩), .int .i64 e, .int .i64 at_] w fun e' w' => e' = .returned (.tuple #[]) ∧ w = w' := by
  by_cases he : err = 0
  · have h0 : (err == 0) = true := by simp [he]
    have h1 : (e != 0) = false := by simp; omega
    clear hs he
    go_enter Try.func47, Try.ntmps47
    go_wp2
    go_end0
    exact ⟨rfl, rfl⟩
  · have h0 : (err == 0) = false := by simp [he]
    clear hs he
    go_enter Try.func47, Try.ntmps47
    go_wp2
    go_end0
    exact ⟨rfl, rfl⟩
set_option maxHeartbeats 1000000 in
theorem rfail_stop (w : World) (b : Nat) (e s : Int) (p x z : Value) (h : w.heap[b]? = some (.cells #[p, x, .int .i64 0, z] 86 (0, 0))) (he : e ≠ 0) :
    Calls Try.prog 47 #[.pointer (some ⟨b, 0, none⟩), .int .i64 e, .int .i64 s] w fun e' w' => e' = .returned (.tuple #[]) ∧ Keeps (OneB b) w w' ∧ w'.heap[b]? = some (.cells #[p, .int .i64 s, .int .i64 e, .int .i64 s] 86 (0, 0)) := by
  have h1 : w.cell? ⟨b, 1, none⟩ = some x := blk_cell h 1
  have h2 : w.cell? ⟨b, 2, none⟩ = some (.int .i64 0) := blk_cell h 2
  have h3 : w.cell? ⟨b, 3, none⟩ = some z := blk_cell h 3
  have f1 := blk_frozen h 1
  have f2 := blk_frozen h 2
  have f3 := blk_frozen h 3
  have hne : (e != 0) = true := by simp [he]
  have H := Sd.mk h
  clear h he
  go_enter Try.func47, Try.ntmps47
  go_wp2
  go_end0
  exact ⟨rfl, (((Keeps.refl (OneB b) w).setCell ⟨b, 2, none⟩ _ (fun _ => rfl)).setCell ⟨b, 3, none⟩ _ (fun _ => rfl)).setCell ⟨b, 1, none⟩ _ (fun _ => rfl), blk_set (blk_set (blk_set H.o 2 _) 3 _) 1 _⟩
theorem rfail_some (w : World) (b : Nat) (s : RSt) (A : Option Addr) (c : Nat) (h : IsRR w b s A c) (e : Int) (h0 : -9223372036854775808 ≤ e) (h1 : e ≤ 9223372036854775807) :
    Calls Try.prog 47 #[.pointer (some ⟨b, 0, none⟩), .int .i64 e, .int .i64 s.pos] w fun e' w' => e' = .returned (.tuple #[]) ∧ IsRR w' b (s.fail e) A c ∧ Keeps (OneB b) w w' := by
  by_cases hs : s.err = 0 ∧ e ≠ 0
  · have hb := h.blk
    rw [hs.1] at hb
    refine (rfail_stop w b e s.pos _ _ _ hb hs.2).mono ?_
    rintro e' w' ⟨rfl, hk, hb'⟩
    rw [show s.fail e = s.stop e s.pos by simp [RSt.fail, hs]]
    exact ⟨rfl, h.stop hk e s.pos h.pos hb' h0 h1, hk⟩
  · refine (rfail_same w b e s.err s.pos (blk_cell h.blk 2) (by omega)).mono ?_
    rintro e' w' ⟨rfl, rfl⟩
    rw [show s.fail e = s by unfold RSt.fail; rw [if_neg hs]]
    exact ⟨rfl, h, Keeps.refl _ _⟩

theorem add_step (acc k c : Nat) (hacc : acc < 2 ^ (7 * k)) (hk : k ≤ 9) (hc : c < 256) (h9 : k = 9 → c ≤ 1) :
    IntKind.u64.wrap ((acc : Int) + IntKind.u64.wrap ((c : Int) % 128 * 2 ^ (7 * k))) = ((acc + (c % 128) * 2 ^ (7 * k) : Nat) : Int) := by
  have hb : acc + (c % 128) * 2 ^ (7 * k) < 18446744073709551616 := by
    by_cases h : k = 9
    · subst h
      have := h9 rfl
      have : (c % 128) * 2 ^ (7 * 9) ≤ 1 * 2 ^ (7 * 9) := Nat.mul_le_mul_right _ (by omega)
      omega
    · have h1 := acc_lt acc k c hacc
      have h2 : 2 ^ (7 * (k + 1)) ≤ 2 ^ 63 := Nat.pow_le_pow_right (by decide) (by omega)
      omega
  have e : (c : Int) % 128 * 2 ^ (7 * k) = (((c % 128) * 2 ^ (7 * k) : Nat) : Int) := by push_cast; rfl
  rw [e, u64_nat _ (by omega), ← Int.natCast_add, u64_nat _ hb]
theorem rr_stop {w w' : World} {b : Nat} {p : List UInt8} {pos spot : Nat} {A : Option Addr} {c : Nat} {E : Int} (h : IsRR w b ⟨p, pos, 0, spot⟩ A c) (hk : Keeps (OneB b) w w')
    (hb : w'.heap[b]? = some (.cells #[.slice A p.length c, .int .i64 pos, .int .i64 E, .int .i64 pos] 86 (0, 0))) (h0 : -9223372036854775808 ≤ E) (h1 : E ≤ 9223372036854775807) : IsRR w' b ⟨p, pos, E, pos⟩ A c :=
  ⟨hb, h.bts.keeps hk h.off.r, h.off, h.pos, h.pos, h0, h1⟩
theorem rr_ok {w : World} {b : Nat} {p : List UInt8} {pos spot : Nat} {A : Option Addr} {c : Nat} (h : IsRR w b ⟨p, pos, 0, spot⟩ A c) (w' : World) (hw : w'.heap = w.heap) (k : Nat) (hl : pos + k ≤ p.length) (v : Int) (hv : v = ((pos + k : Nat) : Int)) :
    IsRR (w'.setCell ⟨b, 1, none⟩ (.int .i64 v)) b ⟨p, pos + k, 0, spot⟩ A c := h.move w' hw (pos + k) hl v hv
set_option maxHeartbeats 4000000 in
set_option maxRecDepth 100000 in
theorem rnum_some (w : World) (b : Nat) (s : RSt) (A : Option Addr) (c : Nat) (h : IsRR w b s A c) :
    Calls Try.prog 46 #[.pointer (some ⟨b, 0, none⟩)] w fun e' w' => e' = .returned (.int .u64 s.num.1) ∧ IsRR w' b s.num.2 A c ∧ Keeps (OneB b) w w' := by
  have h0 : w.cell? ⟨b, 0, none⟩ = some (.slice A s.p.length c) := blk_cell h.blk 0
  have h1 : w.cell? ⟨b, 1, none⟩ = some (.int .i64 s.pos) := blk_cell h.blk 1
  have h2 : w.cell? ⟨b, 2, none⟩ = some (.int .i64 s.err) := blk_cell h.blk 2
  have f1 := blk_frozen h.blk 1
  have hm := h.len
  have hl := h.pos
  have H := Sd.mk h
  have HR := Sd.mk h.bts.rd.2.2.2.2.2
  clear h
  obtain ⟨p, pos, err, spot⟩ := s
  dsimp only at *
  by_cases he : err = 0
  case neg =>
    have hb : (err != 0) = true := by simpa using he
    have hfin : Sd (RSt.num ⟨p, pos, err, spot⟩ = (0, ⟨p, pos, err, spot⟩)) := ⟨by simp [RSt.num, he]⟩
    clear he
    go_enter Try.func46, Try.ntmps46
    go_wp2_with fail
    go_ret
    rw [hfin.o]
    exact ⟨rfl, H.o, Keeps.refl _ _⟩
  case pos =>
  subst he
  obtain ⟨R, hR⟩ : ∃ R, R = rdVar (p.drop pos) 0 0 := ⟨_, rfl⟩
  obtain ⟨Re, Rn, Rk⟩ := R
  have hfin : Sd (RSt.num ⟨p, pos, 0, spot⟩ = if Re = 0 then (Rn, ⟨p, pos + Rk, 0, spot⟩) else (0, ⟨p, pos, Re, pos⟩)) := ⟨by simp [RSt.num, ← hR]⟩
  have HRR := Sd.mk hR
  clear hR
  go_enter Try.func46, Try.ntmps46
  go_wp2_with fail
  go_loopg [4, 5] 10 (fun gk v i wr => ∃ (k acc : Nat), gk + k = 10 ∧ k ≤ 9 ∧ i = .int .i64 k ∧ v = .int .u64 acc ∧ acc < 2 ^ (7 * k) ∧ pos + k ≤ p.length ∧ Sd (wr = w) ∧ Sd ((Re, Rn, Rk) = rdVar (p.drop (pos + k)) k acc))
  case atStart => exact ⟨0, 0, rfl, by omega, rfl, rfl, by simp, by omega, ⟨rfl⟩, HRR⟩
  case round =>
    clear HRR
    obtain ⟨k, acc, hk, hk9, rfl, rfl, hacc, hle, ⟨rfl⟩, HRR⟩ := hrel
    by_cases hlt : pos + k = p.length
    · have hne : (p.length : Int) ≤ (pos : Int) + (k : Int) := by omega
      have hR : (Re, Rn, Rk) = (3, 0, 0) := by rw [HRR.o, List.drop_of_length_le (by omega)]; rfl
      have HR3 := Sd.mk hR
      clear hR
      go_wp2_with (go_at_call 47; refine (rfail_stop _ b _ _ _ _ _ (by exact H.o.blk) (by decide)).mono ?_; rintro e w' ⟨rfl, HK, HB⟩)
      go_ret
      cases HR3.o
      rw [hfin.o, if_neg (by decide)]
      exact ⟨rfl, rr_stop H.o HK HB (by decide) (by decide), HK⟩
    · obtain ⟨bp, op, rfl, hc⟩ := HR.o (pos + k) (by omega)
      have hc' : wr.cell? ⟨bp, op + (pos + k), none⟩ = some (.int .u8 (p[pos+k].toNat : Int)) := hc
      have hdrop : p.drop (pos + k) = p[pos+k] :: p.drop (pos + (k + 1)) := by rw [List.drop_eq_getElem_cons (by omega)]; rfl
      have HD := Sd.mk hdrop
      clear hc hdrop
      generalize p[pos+k] = cc at *
      have hne : ¬ (p.length : Int) ≤ (pos : Int) + (k : Int) := by omega
      have hi0 : (0 : Int) ≤ (pos : Int) + (k : Int) := by omega
      have hi1 : (pos : Int) + (k : Int) < (p.length : Int) := by omega
      have htn : ((pos : Int) + (k : Int)).toNat = pos + k := by omega
      have hcc : cc.toNat < 256 := cc.toNat_lt
      by_cases c1 : 9 ≤ k ∧ 1 < cc.toNat
      · have hR : (Re, Rn, Rk) = (10, 0, 0) := by rw [HRR.o, HD.o, rdVar, if_pos c1]
        have HR3 := Sd.mk hR
        clear hR
        obtain ⟨c1, c1'⟩ := c1
        go_wp2_with (go_at_call 47; refine (rfail_stop _ b _ _ _ _ _ (by exact H.o.blk) (by decide)).mono ?_; rintro e w' ⟨rfl, HK, HB⟩)
        go_ret
        cases HR3.o
        rw [hfin.o, if_neg (by decide)]
        exact ⟨rfl, rr_stop H.o HK HB (by decide) (by decide), HK⟩
      by_cases c2 : cc.toNat = 0 ∧ 0 < k
      · have hR : (Re, Rn, Rk) = (11, 0, 0) := by rw [HRR.o, HD.o, rdVar, if_neg c1, if_pos c2]
        have HR3 := Sd.mk hR
        clear hR
        obtain ⟨c2, c2'⟩ := c2
        have c2'' : ((cc.toNat : Int) == 0) = true := by simp [c2]
        have c3 : cc.toNat < 128 := by omega
        have C2 := Sd.mk c2
        clear c2
        by_cases c9 : 9 ≤ k
        all_goals
          go_wp2_with (go_at_call 47; refine (rfail_stop _ b _ _ _ _ _ (by exact H.o.blk) (by decide)).mono ?_; rintro e w' ⟨rfl, HK, HB⟩)
          go_ret
          cases HR3.o
          rw [hfin.o, if_neg (by decide)]
          exact ⟨rfl, rr_stop H.o HK HB (by decide) (by decide), HK⟩
      by_cases c3 : cc.toNat < 128
      · have hR : (Re, Rn, Rk) = (0, acc + (cc.toNat % 128) * 2 ^ (7 * k), k + 1) := by rw [HRR.o, HD.o, rdVar, if_neg c1, if_neg c2, if_pos c3]
        have HR3 := Sd.mk hR
        have h9 : k = 9 → cc.toNat ≤ 1 := by omega
        have H9 := Sd.mk h9
        clear hR h9
        by_cases c0 : cc.toNat = 0
        · have ck : k = 0 := by omega
          have c0' : ((cc.toNat : Int) == 0) = true := by simp [c0]
          have ck0 : decide ((0 : Int) < (k : Int)) = false := by simp; omega
          have ck0' : ¬ (0 : Int) < (k : Int) := by omega
          have ck9 : ¬ (9 : Int) ≤ (k : Int) := by omega
          have CK := Sd.mk ck
          clear ck c0 c1 c2
          go_wp2_with fail
          go_ret
          cases HR3.o
          rw [hfin.o, if_pos rfl]
          exact ⟨ret_int (add_step acc k _ hacc hk9 hcc H9.o), (by refine rr_ok H.o _ ?_ _ ?_ _ ?_; rfl; omega; omega), (Keeps.refl (OneB b) wr).setCell ⟨b, 1, none⟩ _ (fun _ => rfl)⟩
        · have c0' : ((cc.toNat : Int) == 0) = false := by simp [c0]
          by_cases c9 : 9 ≤ k
          all_goals
            clear c0 c2
            go_wp2_with fail
            go_ret
            cases HR3.o
            rw [hfin.o, if_pos rfl]
            exact ⟨ret_int (add_step acc k _ hacc hk9 hcc H9.o), (by refine rr_ok H.o _ ?_ _ ?_ _ ?_; rfl; omega; omega), (Keeps.refl (OneB b) wr).setCell ⟨b, 1, none⟩ _ (fun _ => rfl)⟩
      · have c4 : k < 9 := by omega
        have hR : (Re, Rn, Rk) = rdVar (p.drop (pos + (k + 1))) (k + 1) (acc + (cc.toNat % 128) * 2 ^ (7 * k)) := by rw [HRR.o, HD.o, rdVar, if_neg c1, if_neg c2, if_neg c3]
        have HR3 := Sd.mk hR
        clear hR
        go_wp2_with fail
        go_roundg (gk - 1)
        case measure => omega
        case rel =>
          exact ⟨k + 1, acc + (cc.toNat % 128) * 2 ^ (7 * k), by omega, by omega, by go_num, by rw [add_step acc k _ hacc hk9 hcc (by omega)], acc_lt _ _ _ hacc, by omega, ⟨rfl⟩, HR3⟩
end Go.Proofs.Ythelafgdegkkkaa
