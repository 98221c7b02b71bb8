/- octet: the reader: sound, stops, Num. -/
import Derived.WalkMore
import Derived.Laws.BytesArg
import Derived.Lib.ConvBytes
import Derived.Test.YtdjamijbhaplgaaGreatGkaa
namespace Go.Proofs.YtdjamijbhaplgaaGreat
open Go.RowKit

set_option maxHeartbeats 1000000 in
theorem sound_nil (w : World) :
    Calls Tryz.prog 103 #[.pointer none] w fun e w' => e = .returned (.bool false) ∧ w = w' := by
  go_enter Tryz.func103, Tryz.ntmps103
  go_wp2
  go_ret
  exact ⟨rfl, rfl⟩

set_option maxHeartbeats 1000000 in
theorem sound_some (w : World) (b : Nat) (e : Int) (h : w.cell? ⟨b, 2, none⟩ = some (.int .i64 e)) :
    Calls Tryz.prog 103 #[.pointer (some ⟨b, 0, none⟩)] w fun e' w' => e' = .returned (.bool (e == 0)) ∧ w = w' := by
  go_enter Tryz.func103, Tryz.ntmps103
  go_wp2
  go_ret
  exact ⟨rfl, rfl⟩

set_option maxHeartbeats 1000000 in
theorem stops_some (w : World) (b : Nat) (e s : Int) (p x y z : Value) (h : w.heap[b]? = some (.cells #[p, x, y, z] 175 (0, 0))) :
    Calls Tryz.prog 104 #[.pointer (some ⟨b, 0, none⟩), .int .i64 e, .int .i64 s] w fun e' w' => e' = .returned (.tuple #[]) ∧ Keeps (OneB b) w w' ∧ w'.heap[b]? = some (.cells #[p, .int .i64 s, .int .i64 e, .int .i64 s] 175 (0, 0)) := by
  have h1 : w.cell? ⟨b, 1, none⟩ = some x := blk_cell h 1
  have h2 : w.cell? ⟨b, 2, none⟩ = some y := blk_cell h 2
  have h3 : w.cell? ⟨b, 3, none⟩ = some z := blk_cell h 3
  have f1 := blk_frozen h 1
  have f2 := blk_frozen h 2
  have f3 := blk_frozen h 3
  have H := Sd.mk h
  clear h
  go_enter Tryz.func104, Tryz.ntmps104
  go_wp2
  go_end0
  exact ⟨rfl, (((Keeps.refl (OneB b) w).setCell ⟨b, 2, none⟩ _ (fun _ => rfl)).setCell ⟨b, 3, none⟩ _ (fun _ => rfl)).setCell ⟨b, 1, none⟩ _ (fun _ => rfl), blk_set (blk_set (blk_set H.o 2 _) 3 _) 1 _⟩

/-- The reader in block b, in a state. -/
structure IsRd (w : World) (b : Nat) (s : RSt) (A : Option Addr) (c : Nat) : Prop where
  blk : w.heap[b]? = some (.cells #[.slice A s.p.length c, .int .i64 s.pos, .int .i64 s.err, .int .i64 s.spot] 175 (0, 0))
  bts : Bts w (.slice A s.p.length c) s.p
  off : Off (OneB b) (.slice A s.p.length c)
  pos : s.pos ≤ s.p.length
  spot : s.spot ≤ s.p.length
  lo : -9223372036854775808 ≤ s.err
  hi : s.err ≤ 9223372036854775807

theorem IsRd.len {w : World} {b : Nat} {s : RSt} {A : Option Addr} {c : Nat} (h : IsRd w b s A c) : s.p.length ≤ 9223372036854775807 := by
  have := h.bts.rd
  unfold maxLen at this
  omega

theorem num_err {w w' : World} {b : Nat} {p : List UInt8} {pos spot : Nat} {A : Option Addr} {c : Nat} {E : Int} (h : IsRd w b ⟨p, pos, 0, spot⟩ A c) (hk : Keeps (OneB b) w w')
    (hb : w'.heap[b]? = some (.cells #[.slice A p.length c, .int .i64 pos, .int .i64 E, .int .i64 pos] 175 (0, 0))) (h0 : -9223372036854775808 ≤ E) (h1 : E ≤ 9223372036854775807) : IsRd w' b ⟨p, pos, E, pos⟩ A c :=
  ⟨hb, h.bts.keeps hk h.off.r, h.off, h.pos, h.pos, h0, h1⟩
theorem num_ok {w : World} {b : Nat} {p : List UInt8} {pos spot : Nat} {A : Option Addr} {c : Nat} (h : IsRd w b ⟨p, pos, 0, spot⟩ A c) (w' : World) (hw : w'.heap = w.heap) (k : Nat) (hl : pos + k ≤ p.length) (v : Int) (hv : v = ((pos + k : Nat) : Int)) :
    IsRd (w'.setCell ⟨b, 1, none⟩ (.int .i64 v)) b ⟨p, pos + k, 0, spot⟩ A c := by
  subst hv
  have hk : Keeps (OneB b) w' (w'.setCell ⟨b, 1, none⟩ (.int .i64 ((pos + k : Nat) : Int))) := (Keeps.refl (OneB b) w').setCell ⟨b, 1, none⟩ _ (fun _ => rfl)
  have hbt : Bts w' (.slice A p.length c) p := by
    obtain ⟨A', c', e, h1, h2, h3, h4, h5⟩ := h.bts
    exact ⟨A', c', e, h1, h2, h3, (by rw [hw]; exact h4), fun i hi => by obtain ⟨b', o', e', hc⟩ := h5 i hi; exact ⟨b', o', e', by rw [← hc]; simp [World.cell?, hw]⟩⟩
  exact ⟨blk_set (by rw [hw]; exact h.blk) 1 _, hbt.keeps hk h.off.r, h.off, hl, h.spot, h.lo, h.hi⟩
set_option maxHeartbeats 2000000 in
set_option maxRecDepth 100000 in
theorem num_some (w : World) (b : Nat) (s : RSt) (A : Option Addr) (c : Nat) (h : IsRd w b s A c) :
    Calls Tryz.prog 116 #[.pointer (some ⟨b, 0, none⟩)] w fun e' w' => e' = .returned (.int .u64 s.num.1) ∧ IsRd w' b s.num.2 A c ∧ Keeps (OneB b) w w' := by
  have h0 : w.cell? ⟨b, 0, none⟩ = some (.slice A s.p.length c) := blk_cell h.blk 0
  have h1 : w.cell? ⟨b, 1, none⟩ = some (.int .i64 s.pos) := blk_cell h.blk 1
  have h2 : w.cell? ⟨b, 2, none⟩ = some (.int .i64 s.err) := blk_cell h.blk 2
  have f1 := blk_frozen h.blk 1
  have hm := h.len
  have hl := h.pos
  have H := Sd.mk h
  have HR := Sd.mk h.bts.rd.2.2.2.2.2
  clear h
  obtain ⟨p, pos, err, spot⟩ := s
  dsimp only at *
  by_cases he : err = 0
  case neg =>
    have hb : (err == 0) = false := by simpa using he
    have hfin : Sd (RSt.num ⟨p, pos, err, spot⟩ = (0, ⟨p, pos, err, spot⟩)) := ⟨by simp [RSt.num, he]⟩
    go_enter Tryz.func116, Tryz.ntmps116
    go_wp2_with fail
    go_step3
    go_wp2_with (go_at_call 103; refine (sound_some _ _ _ h2).mono ?_; rintro e w' ⟨rfl, rfl⟩)
    try rw [Exit.noGoto_ret]
    go_ret
    rw [hfin.o]
    exact ⟨rfl, H.o, Keeps.refl _ _⟩
  case pos =>
  subst he
  obtain ⟨R, hR⟩ : ∃ R, R = rdVar (p.drop pos) 0 0 := ⟨_, rfl⟩
  obtain ⟨Re, Rn, Rk⟩ := R
  have hfin : Sd (RSt.num ⟨p, pos, 0, spot⟩ = if Re = 0 then (Rn, ⟨p, pos + Rk, 0, spot⟩) else (0, ⟨p, pos, Re, pos⟩)) := ⟨by simp [RSt.num, ← hR]⟩
  have HRR := Sd.mk hR
  clear hR
  go_enter Tryz.func116, Tryz.ntmps116
  go_wp2_with fail
  go_step3
  go_wp2_with (go_at_call 103; refine (sound_some _ _ _ h2).mono ?_; rintro e w' ⟨rfl, rfl⟩)
  go_step3
  go_wp2_with fail
  go_loopg [3, 4, 5] 10 (fun gk v wrong i wr => ∃ (k acc m : Nat), gk + k = 10 ∧ k ≤ 9 ∧ wrong = .int .i64 0 ∧ i = .int .i64 k ∧ v = .int .u64 acc ∧ acc < 2 ^ (7 * k) ∧ pos + k ≤ p.length ∧ Sd (wr = w.drewN m) ∧ Sd ((Re, Rn, Rk) = rdVar (p.drop (pos + k)) k acc))
  case atStart => exact ⟨0, 0, 0, rfl, by omega, rfl, rfl, rfl, by simp, by omega, ⟨rfl⟩, HRR⟩
  case round =>
    clear HRR
    obtain ⟨k, acc, m, hk, hk9, rfl, rfl, rfl, hacc, hle, ⟨rfl⟩, HRR⟩ := hrel
    by_cases hlt : pos + k = p.length
    · have hne : ((pos : Int) + (k : Int) == (p.length : Int)) = true := by simp; omega
      have hR : (Re, Rn, Rk) = (3, 0, 0) := by rw [HRR.o, List.drop_of_length_le (by omega)]; rfl
      have HR3 := Sd.mk hR
      clear hR
      go_wp2_with fail
      go_quiet (fail)
      go_wp2_with (go_at_call 104; refine (stops_some _ b _ _ _ _ _ _ (by exact H.o.blk)).mono ?_; rintro e w' ⟨rfl, HK, HB⟩)
      try rw [Exit.noGoto_ret]
      go_ret
      cases HR3.o
      rw [hfin.o, if_neg (by decide)]
      exact ⟨rfl, num_err H.o HK.undrew HB (by decide) (by decide), HK.undrew⟩
    · obtain ⟨bp, op, rfl, hc⟩ := HR.o (pos + k) (by omega)
      have hc' : w.cell? ⟨bp, op + (pos + k), none⟩ = some (.int .u8 (p[pos+k].toNat : Int)) := hc
      have hdrop : p.drop (pos + k) = p[pos+k] :: p.drop (pos + (k + 1)) := by rw [List.drop_eq_getElem_cons (by omega)]; rfl
      have HD := Sd.mk hdrop
      clear hc hdrop
      generalize p[pos+k] = cc at *
      have hne : ((pos : Int) + (k : Int) == (p.length : Int)) = false := by simp; omega
      have hi0 : (0 : Int) ≤ (pos : Int) + (k : Int) := by omega
      have hi1 : (pos : Int) + (k : Int) < (p.length : Int) := by omega
      have htn : ((pos : Int) + (k : Int)).toNat = pos + k := by omega
      go_wp2_with fail
      go_quiet (fail)
      go_wp2_with fail
      go_quiet (fail)
      have hcc : cc.toNat < 256 := cc.toNat_lt
      by_cases c1 : 9 ≤ k ∧ 1 < cc.toNat
      · have hR : (Re, Rn, Rk) = (10, 0, 0) := by rw [HRR.o, HD.o, rdVar, if_pos c1]
        have HR3 := Sd.mk hR
        clear hR
        obtain ⟨c1, c1'⟩ := c1
        go_wp2_with (go_at_call 104; refine (stops_some _ b _ _ _ _ _ _ (by exact H.o.blk)).mono ?_; rintro e w' ⟨rfl, HK, HB⟩)
        try rw [Exit.noGoto_ret]
        go_ret
        cases HR3.o
        rw [hfin.o, if_neg (by decide)]
        exact ⟨rfl, num_err H.o HK.undrew HB (by decide) (by decide), HK.undrew⟩
      by_cases c2 : cc.toNat = 0 ∧ 0 < k
      · have hR : (Re, Rn, Rk) = (11, 0, 0) := by rw [HRR.o, HD.o, rdVar, if_neg c1, if_pos c2]
        have HR3 := Sd.mk hR
        clear hR
        obtain ⟨c2, c2'⟩ := c2
        by_cases c9 : 9 ≤ k
        all_goals
          go_wp2_with (go_at_call 104; refine (stops_some _ b _ _ _ _ _ _ (by exact H.o.blk)).mono ?_; rintro e w' ⟨rfl, HK, HB⟩)
          try rw [Exit.noGoto_ret]
          go_ret
          cases HR3.o
          rw [hfin.o, if_neg (by decide)]
          exact ⟨rfl, num_err H.o HK.undrew HB (by decide) (by decide), HK.undrew⟩
      by_cases c3 : cc.toNat < 128
      · have hR : (Re, Rn, Rk) = (0, acc + (cc.toNat % 128) * 2 ^ (7 * k), k + 1) := by rw [HRR.o, HD.o, rdVar, if_neg c1, if_neg c2, if_pos c3]
        have HR3 := Sd.mk hR
        have h9 : k = 9 → cc.toNat ≤ 1 := by omega
        have H9 := Sd.mk h9
        clear hR h9
        by_cases c0 : cc.toNat = 0
        · have ck : k = 0 := by omega
          have H0 := Sd.mk c0
          have ck0 : ¬ 0 < k := by omega
          have ck9 : k < 9 := by omega
          clear ck
          go_wp2_with fail
          try rw [Exit.noGoto_ret]
          go_ret
          cases HR3.o
          rw [hfin.o, if_pos rfl]
          exact ⟨ret_int (by rw [or_step0 acc k hacc hk9, H0.o]; simp), (by refine num_ok H.o _ ?_ _ ?_ _ ?_; rfl; omega; omega), ((Keeps.refl (OneB b) w).drewN _).setCell ⟨b, 1, none⟩ _ (fun _ => rfl)⟩
        · by_cases c9 : 9 ≤ k
          all_goals
            go_wp2_with fail
            try rw [Exit.noGoto_ret]
            go_ret
            cases HR3.o
            rw [hfin.o, if_pos rfl]
            exact ⟨ret_int (or_step acc k _ hacc hk9 hcc H9.o), (by refine num_ok H.o _ ?_ _ ?_ _ ?_; rfl; omega; omega), ((Keeps.refl (OneB b) w).drewN _).setCell ⟨b, 1, none⟩ _ (fun _ => rfl)⟩
      · have c4 : k < 9 := by omega
        have hR : (Re, Rn, Rk) = rdVar (p.drop (pos + (k + 1))) (k + 1) (acc + (cc.toNat % 128) * 2 ^ (7 * k)) := by rw [HRR.o, HD.o, rdVar, if_neg c1, if_neg c2, if_neg c3]
        have HR3 := Sd.mk hR
        clear hR
        go_wp2_with fail
        go_roundg (gk - 1)
        case measure => omega
        case rel => exact ⟨k + 1, acc + (cc.toNat % 128) * 2 ^ (7 * k), _, by omega, by omega, rfl, by go_num, by rw [or_step acc k _ hacc hk9 hcc (by omega)], acc_lt _ _ _ hacc, by omega, ⟨rfl⟩, HR3⟩
end Go.Proofs.YtdjamijbhaplgaaGreat
namespace Go.Proofs.YtdjamijbhaplgaaGreat
open Go.RowKit

theorem Calls.quiet_same {P : Program} {f : FuncId} {args : Array Value} {w : World} {n : Nat} {v : Value}
    (h : Calls P f args (w.drewN n) fun e w' => e = .returned v ∧ w.drewN n = w') : Calls P f args (w.drewN n) fun e w'' => e = .returned v ∧ ∃ m, w'' = w.drewN m :=
  h.mono fun _ _ ⟨he, hm⟩ => ⟨he, n, hm.symm⟩

theorem IsRd.keeps {F : Nat → Prop} {w w' : World} {b : Nat} {s : RSt} {A : Option Addr} {c : Nat} (h : IsRd w b s A c) (k : Keeps F w w') (hb : ¬ F b) (ho : OffR F (.slice A s.p.length c)) : IsRd w' b s A c :=
  ⟨k.obj h.blk hb, h.bts.keeps k ho, h.off, h.pos, h.spot, h.lo, h.hi⟩
theorem IsRd.drewN {w : World} {b : Nat} {s : RSt} {A : Option Addr} {c : Nat} (h : IsRd w b s A c) (n : Nat) : IsRd (w.drewN n) b s A c := ⟨h.blk, h.bts, h.off, h.pos, h.spot, h.lo, h.hi⟩
theorem IsRd.stop {w w' : World} {b : Nat} {s : RSt} {A : Option Addr} {c : Nat} (h : IsRd w b s A c) (k : Keeps (OneB b) w w') (e : Int) (at_ : Nat) (ha : at_ ≤ s.p.length)
    (hb : w'.heap[b]? = some (.cells #[.slice A s.p.length c, .int .i64 at_, .int .i64 e, .int .i64 at_] 175 (0, 0))) (h0 : -9223372036854775808 ≤ e) (h1 : e ≤ 9223372036854775807) : IsRd w' b (s.stop e at_) A c :=
  ⟨hb, h.bts.keeps k h.off.r, h.off, ha, ha, h0, h1⟩
theorem IsRd.move {w : World} {b : Nat} {s : RSt} {A : Option Addr} {c : Nat} (h : IsRd w b s A c) (w' : World) (hw : w'.heap = w.heap) (k : Nat) (hl : k ≤ s.p.length) (v : Int) (hv : v = (k : Int)) :
    IsRd (w'.setCell ⟨b, 1, none⟩ (.int .i64 v)) b { s with pos := k } A c := by
  subst hv
  have hk : Keeps (OneB b) w' (w'.setCell ⟨b, 1, none⟩ (.int .i64 ((k : Nat) : Int))) := (Keeps.refl (OneB b) w').setCell ⟨b, 1, none⟩ _ (fun _ => rfl)
  have hbt : Bts w' (.slice A s.p.length c) s.p := by
    obtain ⟨A', c', e, h1, h2, h3, h4, h5⟩ := h.bts
    exact ⟨A', c', e, h1, h2, h3, (by rw [hw]; exact h4), fun i hi => by obtain ⟨b', o', e', hc⟩ := h5 i hi; exact ⟨b', o', e', by rw [← hc]; simp [World.cell?, hw]⟩⟩
  exact ⟨blk_set (by rw [hw]; exact h.blk) 1 _, hbt.keeps hk h.off.r, h.off, hl, h.spot, h.lo, h.hi⟩

set_option maxHeartbeats 1000000 in
theorem at_nil (w : World) : Calls Tryz.prog 101 #[.pointer none] w fun e w' => e = .returned (.int .i64 0) ∧ w = w' := by
  go_enter Tryz.func101, Tryz.ntmps101
  go_wp2
  go_ret
  exact ⟨rfl, rfl⟩
set_option maxHeartbeats 1000000 in
theorem at_some (w : World) (b : Nat) (s : RSt) (A : Option Addr) (c : Nat) (h : IsRd w b s A c) : Calls Tryz.prog 101 #[.pointer (some ⟨b, 0, none⟩)] w fun e w' => e = .returned (.int .i64 s.pos) ∧ w = w' := by
  have h1 : w.cell? ⟨b, 1, none⟩ = some (.int .i64 s.pos) := blk_cell h.blk 1
  clear h
  go_enter Tryz.func101, Tryz.ntmps101
  go_wp2
  go_ret
  exact ⟨rfl, rfl⟩
set_option maxHeartbeats 1000000 in
theorem why_nil (w : World) : Calls Tryz.prog 105 #[.pointer none] w fun e w' => e = .returned (.tuple #[.int .i64 0, .int .i64 0]) ∧ w = w' := by
  go_enter Tryz.func105, Tryz.ntmps105
  go_wp2
  go_ret2
  exact ⟨rfl, rfl⟩
set_option maxHeartbeats 1000000 in
theorem why_some (w : World) (b : Nat) (s : RSt) (A : Option Addr) (c : Nat) (h : IsRd w b s A c) : Calls Tryz.prog 105 #[.pointer (some ⟨b, 0, none⟩)] w fun e w' => e = .returned (.tuple #[.int .i64 s.err, .int .i64 s.spot]) ∧ ∃ n, w' = w.drewN n := by
  have h2 : w.cell? ⟨b, 2, none⟩ = some (.int .i64 s.err) := blk_cell h.blk 2
  have h3 : w.cell? ⟨b, 3, none⟩ = some (.int .i64 s.spot) := blk_cell h.blk 3
  clear h
  go_enter Tryz.func105, Tryz.ntmps105
  go_wp2_with fail
  go_region
  all_goals
    go_wp2
    go_ret2
    exact ⟨rfl, 1, rfl⟩
end Go.Proofs.YtdjamijbhaplgaaGreat
namespace Go.Proofs.YtdjamijbhaplgaaGreat
open Go.RowKit

/-- The string of bytes. -/
def sOf (xs : List UInt8) : ByteArray := ⟨xs.toArray⟩
theorem sOf_inj {xs ys : List UInt8} (h : sOf xs = sOf ys) : xs = ys := by
  have : (sOf xs).data.toList = (sOf ys).data.toList := by rw [h]
  simpa [sOf] using this
theorem sOf_eq (s : ByteArray) : sOf s.data.toList = s := by simp [sOf]
theorem sOf_size (xs : List UInt8) : (sOf xs).size = xs.length := by simp [sOf, ByteArray.size]
theorem strOfNums_u8 (xs : List UInt8) : strOfNums (xs.map fun x => (x.toNat : Int)) = sOf xs := by
  unfold strOfNums sOf
  congr 1
  rw [List.map_map]
  have : (fun n : Int => UInt8.ofNat n.toNat) ∘ (fun x : UInt8 => (x.toNat : Int)) = id := by funext x; simp
  rw [this, List.map_id]

theorem conv_rd {P : Program} (w : World) (src e dst : TypeId) (hs : P.underlying src = some (.slice e)) (he : P.underlying e = some (.int .u8)) (hd : P.underlying dst = some .string)
    (A : Option Addr) (xs : List UInt8) (c : Nat) (h : Rd w A xs) : (convert src dst (.slice A xs.length c)).run P w = .ok (.string (sOf xs)) w := by
  cases xs with
  | nil =>
    cases A with
    | none => exact run_convert_bytes_nil w src e hs he _ c dst hd
    | some a =>
      rw [run_convert_bytes_string w src dst e _ _ c hs he hd]
      show (Conv.bytesToString (.slice (some a) 0 c)).run P w = _
      rw [run_bytesToString w a 0 c [] (by simp [loadCells, loadCellsFrom, Sem.run_pure])]
      rfl
  | cons x l =>
    obtain ⟨b, o, rfl, _⟩ := h 0 (by simp)
    rw [← strOfNums_u8]
    refine run_convert_bytes_arg w src e hs he b o _ c _ (by simp) (fun i hi => ?_) dst hd
    obtain ⟨b', o', e', hc⟩ := h i hi
    cases e'
    rw [hc, List.getD_eq_getElem?_getD, List.getElem?_map, List.getElem?_eq_getElem hi]
    rfl

/-- The address of a slice of a slice. -/
def cutA (A : Option Addr) (c lo : Nat) : Option Addr := if c = lo then A else A.map (·.add lo)
theorem slice_run {P : Program} (t e : TypeId) (kl kh : IntKind) {i : TypeInfo} (ht : P.underlying t = some (.slice e)) (hi : P.info? e = some i) (hsz : i.size = 1) (A : Option Addr) (n c lo hi' : Nat) (h1 : lo ≤ hi') (h2 : hi' ≤ c) (W : World) (l h : Int) (hl : l = lo) (hh : h = hi') :
    (Instr.slice t (.slice A n c) (some (.int kl l)) (some (.int kh h)) none).run P W = .ok (.slice (cutA A c lo) (hi' - lo) (c - lo)) W := by
  subst hl hh
  have hel : P.elem t = e := by simp [Program.elem, ht]
  have hu : P.underlying t = some (.slice (P.elem t)) := by rw [hel]; exact ht
  rw [run_slice_lh W t A n c hu kl kh lo hi' (by omega) (by omega) (by omega), hel]
  simp [sizeOf, typeInfo, hi, hsz, sliced, Result.andThen, cutA]
theorem slice_run_l {P : Program} (t e : TypeId) (kl : IntKind) {i : TypeInfo} (ht : P.underlying t = some (.slice e)) (hi : P.info? e = some i) (hsz : i.size = 1) (A : Option Addr) (n c lo : Nat) (h1 : lo ≤ n) (W : World) (l : Int) (hl : l = lo) :
    (Instr.slice t (.slice A n c) (some (.int kl l)) none none).run P W = .ok (.slice (cutA A c lo) (n - lo) (c - lo)) W := by
  subst hl
  have hel : P.elem t = e := by simp [Program.elem, ht]
  have hu : P.underlying t = some (.slice (P.elem t)) := by rw [hel]; exact ht
  rw [run_slice_l W t A n c hu kl lo (by omega) (by omega), hel]
  simp [sizeOf, typeInfo, hi, hsz, sliced, Result.andThen, cutA]
theorem slice_run_h {P : Program} (t e : TypeId) (kh : IntKind) {i : TypeInfo} (ht : P.underlying t = some (.slice e)) (hi : P.info? e = some i) (hsz : i.size = 1) (A : Option Addr) (n c hi' : Nat) (hA : 0 < c → ∀ a, A = some a → a.spot = none) (h2 : hi' ≤ c) (W : World) (h : Int) (hh : h = hi') :
    (Instr.slice t (.slice A n c) none (some (.int kh h)) none).run P W = .ok (.slice A hi' c) W := by
  subst hh
  have hel : P.elem t = e := by simp [Program.elem, ht]
  have hu : P.underlying t = some (.slice (P.elem t)) := by rw [hel]; exact ht
  rw [run_slice_h W t A n c hu kh hi' (by omega) (by omega), hel]
  cases A with
  | none => simp [sizeOf, typeInfo, hi, hsz, sliced, Result.andThen]
  | some a =>
    have : 0 < c → a.add 0 = a := fun hc => by
      obtain ⟨b, o, s⟩ := a
      have := hA hc _ rfl
      simp only at this
      subst this
      rw [add_lit]; rfl
    by_cases hc : c = 0
    · simp [sizeOf, typeInfo, hi, hsz, sliced, Result.andThen, hc]
    · simp [sizeOf, typeInfo, hi, hsz, sliced, Result.andThen, this (by omega), hc]
theorem Rd.cut {w : World} {A : Option Addr} {xs : List UInt8} (h : Rd w A xs) (c lo hi : Nat) (h1 : lo ≤ hi) (h2 : hi ≤ xs.length) (hc : xs.length ≤ c) : Rd w (cutA A c lo) ((xs.drop lo).take (hi - lo)) := by
  intro i hi'
  simp only [List.length_take, List.length_drop] at hi'
  obtain ⟨b, o, rfl, hcell⟩ := h (lo + i) (by omega)
  have hne : c ≠ lo := by omega
  refine ⟨b, o + lo, by simp [cutA, hne, add_lit], ?_⟩
  rw [show o + lo + i = o + (lo + i) by omega, hcell]
  simp
theorem Rd.take {w : World} {A : Option Addr} {xs : List UInt8} (h : Rd w A xs) (n : Nat) : Rd w A (xs.take n) := by
  intro i hi'
  simp only [List.length_take] at hi'
  obtain ⟨b, o, rfl, hcell⟩ := h i (by omega)
  exact ⟨b, o, rfl, by rw [hcell]; simp⟩
theorem Bts.cut {w : World} {A : Option Addr} {xs : List UInt8} {n c : Nat} (h : Bts w (.slice A n c) xs) (lo hi : Nat) (h1 : lo ≤ hi) (h2 : hi ≤ xs.length) : Bts w (.slice (cutA A c lo) (hi - lo) (c - lo)) ((xs.drop lo).take (hi - lo)) := by
  obtain ⟨rfl, hc, hm, hn, hsp, hr⟩ := h.rd
  have hl : ((xs.drop lo).take (hi - lo)).length = hi - lo := by simp; omega
  refine ⟨_, c - lo, by rw [hl], by omega, by omega, fun e => ?_, fun hcp a ha => ?_, hr.cut c lo hi h1 h2 hc⟩
  · cases A with
    | none => have := hn rfl; omega
    | some a => by_cases hcl : c = lo <;> simp [cutA, hcl] at e
  · cases A with
    | none => by_cases hcl : c = lo <;> simp [cutA, hcl] at ha
    | some a' =>
      have := hsp (by omega) a' rfl
      by_cases hcl : c = lo
      · simp [cutA, hcl] at ha; subst ha; exact this
      · simp [cutA, hcl] at ha
        subst ha
        obtain ⟨b, o, s⟩ := a'
        obtain ⟨rfl, hb⟩ := this
        rw [add_lit]; exact ⟨rfl, hb⟩
theorem cutA_own {A : Option Addr} {c lo n m k : Nat} : (Value.slice (cutA A c lo) n m).ownBlock = (Value.slice A k c).ownBlock := by
  unfold cutA
  split
  · cases A <;> rfl
  · cases A with
    | none => rfl
    | some a => simp [Value.ownBlock]; unfold Addr.add; split <;> rfl
theorem OffR.cut {F : Nat → Prop} {A : Option Addr} {c lo n m k : Nat} (h : OffR F (.slice A k c)) (hm : m ≤ c) : OffR F (.slice (cutA A c lo) n m) := by
  intro a n' c' e hc
  cases A with
  | none => simp [cutA] at e
  | some a' =>
    injection e with e1 e2 e3
    have hb : a.block = a'.block := by
      unfold cutA at e1
      split at e1
      · injection e1 with e1; rw [e1]
      · simp at e1; rw [← e1]; unfold Addr.add; split <;> rfl
    rw [hb]
    exact h a' k c rfl (by omega)
theorem Off.cut {F : Nat → Prop} {A : Option Addr} {c lo n m k : Nat} (h : Off F (.slice A k c)) : Off F (.slice (cutA A c lo) n m) := by
  intro b hb; rw [cutA_own (k := k)] at hb; exact h b hb
theorem Bts.drop {w : World} {A : Option Addr} {xs : List UInt8} {n c : Nat} (h : Bts w (.slice A n c) xs) (lo : Nat) (h1 : lo ≤ xs.length) : Bts w (.slice (cutA A c lo) (n - lo) (c - lo)) (xs.drop lo) := by
  have e := h.rd.1
  have := h.cut lo xs.length h1 (Nat.le_refl _)
  rw [e]
  rwa [List.take_of_length_le (by simp)] at this
theorem Bts.take {w : World} {A : Option Addr} {xs : List UInt8} {n c : Nat} (h : Bts w (.slice A n c) xs) (m : Nat) (h1 : m ≤ xs.length) : Bts w (.slice A m c) (xs.take m) := by
  obtain ⟨rfl, hc, hm, hn, hsp, hr⟩ := h.rd
  have hl : (xs.take m).length = m := by simp; omega
  exact ⟨A, c, by rw [hl], by omega, hm, hn, hsp, hr.take m⟩
end Go.Proofs.YtdjamijbhaplgaaGreat
