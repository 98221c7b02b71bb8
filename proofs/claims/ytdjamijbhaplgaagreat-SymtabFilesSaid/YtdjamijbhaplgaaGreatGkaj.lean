/- simfs: there, Used, Waiting: what ranges over the names. -/
import Derived.Deep.RegionLaw
import Derived.Deep.DeepCutAuto
import Derived.Test.YtdjamijbhaplgaaGreatGkai
namespace Go.Proofs.YtdjamijbhaplgaaGreat
open Go.RowKit Go.Maps

theorem Keeps.iter {w w1 w2 : World} {r : Nat} (h : Keeps NoB w w1) (k : Keeps (OneB r) w1 w2) (hr : w.heap.size ≤ r) : Keeps NoB w w2 :=
  h.trans k (fun _ _ f => f) (fun i hi f => by cases f; omega)
/-- What there finds. -/
def thereP (off : Bool) (d : Dir) (g : Nat → Option Nat) (n : Int) : Option Addr :=
  if off then none else if d.any (fun e => ((e.2 : Nat) : Int) == n) then (g n.toNat).map (fun fb => ⟨fb, 0, none⟩) else none
def thereE (off : Bool) (d : Dir) (n : Int) : Int := if off then 21 else if d.any (fun e => ((e.2 : Nat) : Int) == n) then 0 else 7
theorem any_num {d : Dir} {s : List UInt8} {k : Nat} (h : d.lookup s = some k) {n : Int} (hn : (k : Int) = n) : d.any (fun e => ((e.2 : Nat) : Int) == n) = true :=
  List.any_eq_true.2 ⟨(s, k), lookup_mem h, by simpa using hn⟩
theorem not_any_num {d : Dir} (hd : (d.map (·.1)).Nodup) {n : Int} (h : ∀ s k, d.lookup s = some k → (k : Int) ≠ n) : d.any (fun e => ((e.2 : Nat) : Int) == n) = false := by
  cases ha : d.any (fun e => ((e.2 : Nat) : Int) == n) with
  | false => rfl
  | true =>
    obtain ⟨⟨s, k⟩, he, hk⟩ := List.any_eq_true.1 ha
    exact absurd (by simpa using hk) (h s k (mem_lookup hd he))
theorem there_nil (w : World) (n : Int) : Calls Tryz.prog 37 #[.pointer none, .int .i64 n] w fun e w' => e = .returned (.tuple #[.pointer none, .int .i64 7]) ∧ w = w' := by
  go_enter Tryz.func37, Tryz.ntmps37
  go_wp2_with (go_at_call 78; refine (on_nil w).mono ?_; rintro e w' ⟨rfl, rfl⟩)
  go_ret2
  exact ⟨rfl, rfl⟩
set_option maxHeartbeats 2000000 in
theorem there_some (w : World) (b mf mn N : Nat) (d : Dir) (g : Nat → Option Nat) (off : Bool) (h0 : w.cell? ⟨b, 0, none⟩ = some (.map (some mf))) (h2 : w.cell? ⟨b, 2, none⟩ = some (.map (some mn))) (h8 : w.cell? ⟨b, 8, none⟩ = some (.bool off))
    (hN : MapN w mn d) (hF : MapF w mf N g) (hd : (d.map (·.1)).Nodup) (hlow : ∀ e ∈ d, e.2 ≤ 4611686018427387904) (n : Int) :
    Calls Tryz.prog 37 #[.pointer (some ⟨b, 0, none⟩), .int .i64 n] w fun e w' => e = .returned (.tuple #[.pointer (thereP off d g n), .int .i64 (thereE off d n)]) ∧ Keeps NoB w w' := by
  have HON := Sd.mk (on_some w b off h8)
  have HN := Sd.mk hN
  have HF := Sd.mk hF
  have HD := Sd.mk hd
  have HL := Sd.mk hlow
  have C0 := Sd.mk h0
  have C2 := Sd.mk h2
  clear h8 hN hF hd hlow h0
  cases off with
  | true =>
    go_enter Tryz.func37, Tryz.ntmps37
    go_wp2_with (go_at_call 78; refine HON.o.mono ?_; rintro e w' ⟨rfl, rfl⟩)
    go_ret2
    exact ⟨rfl, Keeps.refl _ _⟩
  | false =>
    go_enter Tryz.func37, Tryz.ntmps37
    go_wp2_with (first | (go_at_call 78; refine HON.o.mono ?_; rintro e w' ⟨rfl, rfl⟩) | (at_range; refine wpList_range_names rfl _ rfl rfl HN.o ?_; intro w1 hrg hk hs))
    go_frame
    have HK1 := Sd.mk hk
    have HR1 := Sd.mk hrg
    clear HON h2 hk hrg
    go_loopg [8, 19] (w1.rangeLeft mn w.heap.size) (fun gk m t wr => ∃ left, Sd (RangeN wr mn w.heap.size d left) ∧ Sd (∀ x k, left x = false → d.lookup x = some k → (k : Int) ≠ n) ∧ Sd (Keeps NoB w wr) ∧ gk = wr.rangeLeft mn w.heap.size)
    case atStart => exact ⟨_, HR1, ⟨fun x k hx hl => by rw [hl] at hx; cases hx⟩, HK1, rfl⟩
    case round =>
      obtain ⟨left, HR, HNO, HK, rfl⟩ := hrel
      go_wp2_with (at_next; refine wpList_next_names rfl _ rfl rfl HR.o ?done ?more)
      case done =>
        intro hl
        have hE : Sd (thereP false d g n = none ∧ thereE false d n = 7) := ⟨by
          have := not_any_num HD.o (n := n) (fun s k h => HNO.o s k (hl s) h)
          unfold thereP thereE
          rw [this]
          exact ⟨rfl, rfl⟩⟩
        clear hl
        go_wp2
        go_ret2
        exact ⟨by rw [hE.o.1, hE.o.2]; rfl, HK.o⟩
      case more =>
        intro S k w2 hS hlk hlt hrg hk hlt2 hen
        have HK2 : Sd (Keeps NoB w w2) := ⟨HK.o.iter hk (Nat.le_refl _)⟩
        have HRG := Sd.mk hrg
        have HLK := Sd.mk hlk
        clear hS hlk hlt hrg hk
        by_cases hkn : (k : Int) = n
        · subst hkn
          have c0 : w2.cell? ⟨b, 0, none⟩ = some (.map (some mf)) := HK2.o.cell C0.o (fun f => f)
          have hlook := (HF.o.keeps HK2.o (fun f => f)).look k (HL.o _ (lookup_mem HLK.o))
          have hE : Sd (thereP false d g k = (g k).map (fun fb => ⟨fb, 0, none⟩) ∧ thereE false d k = 0) := ⟨by
            have := any_num HLK.o (n := (k : Int)) rfl
            unfold thereP thereE
            rw [this]
            exact ⟨rfl, rfl⟩⟩
          go_wp2
          go_ret2
          exact ⟨by rw [hE.o.1, hE.o.2]; rfl, HK2.o⟩
        · have hq : ((k : Int) == n) = false := by simpa using hkn
          go_wp2
          go_roundg (w2.rangeLeft mn w.heap.size)
          case measure => exact hlt2
          case rel =>
            refine ⟨_, HRG, ⟨fun x j hx hl => ?_⟩, HK2, rfl⟩
            by_cases hxs : x = S.data.toList
            · subst hxs
              rw [HLK.o] at hl; cases hl; exact hkn
            · refine HNO.o x j ?_ hl
              have hb : (x != S.data.toList) = true := by simpa using hxs
              rw [hb] at hx
              simpa using hx
/-- A file system's cells. -/
theorem IsFS.c {w : World} {m : FsMem} {s : FSt} (h : IsFS w m s) : w.cell? ⟨m.b, 0, none⟩ = some (.map (some m.mf)) ∧ w.cell? ⟨m.b, 1, none⟩ = some (.int .i64 (s.F.length : Nat)) ∧ w.cell? ⟨m.b, 2, none⟩ = some (.map (some m.mn)) ∧ w.cell? ⟨m.b, 3, none⟩ = some (.map (some m.ms)) ∧
    w.cell? ⟨m.b, 4, none⟩ = some m.mv ∧ w.cell? ⟨m.b, 5, none⟩ = some (.int .i64 s.cap) ∧ w.cell? ⟨m.b, 6, none⟩ = some (.int .i64 (s.ops : Nat)) ∧ w.cell? ⟨m.b, 7, none⟩ = some (.int .i64 s.left) ∧ w.cell? ⟨m.b, 8, none⟩ = some (.bool s.off) :=
  ⟨blk_cell h.blk 0, blk_cell h.blk 1, blk_cell h.blk 2, blk_cell h.blk 3, blk_cell h.blk 4, blk_cell h.blk 5, blk_cell h.blk 6, blk_cell h.blk 7, blk_cell h.blk 8⟩
theorem IsFile.c {w : World} {f : FMem} {x : FileS} (h : IsFile w f x) : w.cell? ⟨f.fb, 0, none⟩ = some f.dv ∧ w.cell? ⟨f.fb, 1, none⟩ = some f.sv ∧ w.cell? ⟨f.fb, 2, none⟩ = some f.lv :=
  ⟨blk_cell h.blk 0, blk_cell h.blk 1, blk_cell h.blk 2⟩
theorem RowU.slice {w : World} {v : Value} {xs : List UInt8} (h : RowU w v xs) : ∃ A c, v = .slice A xs.length c := by
  obtain ⟨A, c, e, _⟩ := h.1
  exact ⟨A, c, e⟩
theorem there_fs (w : World) (m : FsMem) (s : FSt) (h : IsFS w m s) (ok : FsOk s) (hN : s.F.length ≤ 4611686018427387904) (n : Int) :
    Calls Tryz.prog 37 #[.pointer (some ⟨m.b, 0, none⟩), .int .i64 n] w fun e w' => ∃ p, e = .returned (.tuple #[.pointer p, .int .i64 (s.there n)]) ∧ Keeps NoB w w' ∧
      (s.there n ≠ 0 → p = none) ∧ (s.there n = 0 → s.off = false ∧ ∃ (k : Nat) (f : FMem), n = k ∧ k ≤ s.F.length ∧ m.g k = some f ∧ p = some ⟨f.fb, 0, none⟩) := by
  have hlow : ∀ e ∈ s.D, e.2 ≤ 4611686018427387904 := fun e he => Nat.le_trans (ok.dirD.low e he).2 hN
  refine (there_some w m.b m.mf m.mn _ s.D _ s.off h.c.1 h.c.2.2.1 h.c.2.2.2.2.2.2.2.2 h.names h.files ok.dirD.names hlow n).mono fun e w' ⟨he, hk⟩ => ?_
  refine ⟨_, he, hk, fun hne => ?_, fun h0 => ?_⟩
  · unfold thereP
    unfold FSt.there at hne
    split
    · rfl
    · split
      · rename_i h1 h2; rw [if_neg h1, if_pos h2] at hne; exact absurd rfl hne
      · rfl
  · unfold FSt.there at h0
    split at h0
    · cases h0
    · rename_i hoff
      split at h0
      · rename_i ha
        obtain ⟨e1, he1, hn1⟩ := List.any_eq_true.1 ha
        have hn2 : (e1.2 : Int) = n := by simpa using hn1
        obtain ⟨f, hf⟩ := Option.isSome_iff_exists.1 (h.has.1 e1 he1)
        refine ⟨by simpa using hoff, e1.2, f, hn2.symm, (ok.dirD.low e1 he1).2, hf, ?_⟩
        unfold thereP
        rw [if_neg hoff, if_pos ha, ← hn2, Int.toNat_natCast]
        dsimp only
        rw [hf]
        rfl
      · cases h0

/-- Of those who are no longer to come. -/
def sumOff (d : Dir) (left : List UInt8 → Bool) (f : Nat → Nat) : Nat := (d.map fun e => if left e.1 then 0 else f e.2).sum
theorem sumOff_all (d : Dir) (left : List UInt8 → Bool) (f : Nat → Nat) (h : ∀ e ∈ d, left e.1 = true) : sumOff d left f = 0 := by
  unfold sumOff
  induction d with
  | nil => rfl
  | cons e d ih =>
    rw [List.map_cons, List.sum_cons, ih (fun x hx => h x (by simp [hx])), h e (by simp)]
    rfl
theorem sumOff_none (d : Dir) (left : List UInt8 → Bool) (f : Nat → Nat) (h : ∀ s, left s = false) : sumOff d left f = (d.map fun e => f e.2).sum := by
  unfold sumOff
  congr 1
  refine List.map_congr_left fun e _ => ?_
  rw [h]; rfl
theorem sumOff_step {d : Dir} (hd : (d.map (·.1)).Nodup) {left : List UInt8 → Bool} {f : Nat → Nat} {s : List UInt8} {k : Nat} (hl : d.lookup s = some k) (hs : left s = true) : sumOff d (fun x => left x && x != s) f = sumOff d left f + f k := by
  unfold sumOff
  induction d with
  | nil => simp at hl
  | cons e d ih =>
    obtain ⟨a, n⟩ := e
    simp only [List.map_cons, List.nodup_cons] at hd
    rw [List.map_cons, List.sum_cons, List.map_cons, List.sum_cons]
    by_cases ha : s = a
    · subst ha
      simp at hl
      subst hl
      have hsame : (d.map fun e => if (left e.1 && e.1 != s) then 0 else f e.2) = d.map fun e => if left e.1 then 0 else f e.2 := by
        refine List.map_congr_left fun e he => ?_
        have : e.1 ≠ s := fun h => hd.1 (List.mem_map.2 ⟨e, he, h⟩)
        have hb : (e.1 != s) = true := by simpa using this
        rw [hb, Bool.and_true]
      rw [hsame]
      simp [hs]
      omega
    · have hb : (s == a) = false := by simpa using ha
      rw [List.lookup_cons, hb] at hl
      have hb2 : (a != s) = true := by simpa using fun h => ha h.symm
      rw [ih hd.2 hl]
      simp only [hb2, Bool.and_true]
      omega
theorem sumOff_le (d : Dir) (left : List UInt8 → Bool) (f : Nat → Nat) (B : Nat) (h : ∀ n, f n ≤ B) : sumOff d left f ≤ d.length * B := by
  unfold sumOff
  induction d with
  | nil => simp
  | cons e d ih =>
    rw [List.map_cons, List.sum_cons, List.length_cons, Nat.succ_mul]
    have := h e.2
    split <;> omega
set_option maxHeartbeats 2000000 in
theorem used_fs (w : World) (m : FsMem) (s : FSt) (h : IsFS w m s) (ok : FsOk s) (fo : FilesOk s) (hN : s.F.length ≤ 4611686018427387904) :
    Calls Tryz.prog 79 #[.pointer (some ⟨m.b, 0, none⟩)] w fun e w' => e = .returned (.int .i64 (s.used : Nat)) ∧ Keeps NoB w w' := by
  have hlow : Sd (∀ e ∈ s.D, e.2 ≤ 4611686018427387904) := ⟨fun e he => Nat.le_trans (ok.dirD.low e he).2 hN⟩
  have h2 := h.c.2.2.1
  have H := Sd.mk h
  have HD := Sd.mk ok.dirD.names
  have hlen := ok.len
  have HB := Sd.mk fo.small
  clear h ok fo hN
  go_enter Tryz.func79, Tryz.ntmps79
  go_wp2_with (at_range; refine wpList_range_names rfl _ rfl rfl H.o.names ?_; intro w1 hrg hk hs)
  go_frame
  have HK1 := Sd.mk hk
  have HR1 := Sd.mk hrg
  clear h2 hk hrg
  go_loopg [2, 4, 12] (w1.rangeLeft m.mn w.heap.size) (fun gk v _ _ wr => ∃ left, Sd (RangeN wr m.mn w.heap.size s.D left) ∧ v = .int .i64 (sumOff s.D left (fun n => (s.file n).data.length) : Nat) ∧ Sd (Keeps NoB w wr) ∧ gk = wr.rangeLeft m.mn w.heap.size)
  case atStart => exact ⟨_, HR1, by rw [sumOff_all _ _ _ (fun e he => by rw [mem_lookup HD.o (show (e.1, e.2) ∈ s.D from he)]; rfl)]; rfl, HK1, rfl⟩
  case round =>
    obtain ⟨left, HR, rfl, HK, rfl⟩ := hrel
    go_wp2_with (at_next; refine wpList_next_names rfl _ rfl rfl HR.o ?done ?more)
    case done =>
      intro hl
      have hE := Sd.mk (sumOff_none s.D left (fun n => (s.file n).data.length) hl)
      clear hl
      go_wp2
      go_ret
      exact ⟨by rw [hE.o]; rfl, HK.o⟩
    case more =>
      intro S k w2 hS hlk hlt hrg hk hlt2 hen
      have HK2 : Sd (Keeps NoB w w2) := ⟨HK.o.iter hk (Nat.le_refl _)⟩
      have HRG := Sd.mk hrg
      have hmem := lookup_mem hlk
      have hI := H.o.kept HK2.o
      obtain ⟨f, hf⟩ := Option.isSome_iff_exists.1 (hI.has.1 _ hmem)
      have hfile := (hI.file k f hf).2.2
      have c0 := hI.c.1
      have hlook := hI.files.look k (hlow.o _ hmem)
      rw [hf] at hlook
      have cd := hfile.c.1
      obtain ⟨Ad, cc, hdv⟩ := hfile.dat.slice
      rw [hdv] at cd
      have hsm := HB.o k
      have hle := sumOff_le s.D left (fun n => (s.file n).data.length) 67108864 HB.o
      have hst := Sd.mk (sumOff_step HD.o (f := fun n => (s.file n).data.length) hlk hlt)
      generalize sumOff s.D left (fun n => (s.file n).data.length) = acc at *
      have hacc : acc ≤ 274877906944 := Nat.le_trans hle (by omega)
      clear hS hlk hlt hrg hk hmem hI hfile hle
      go_wp2
      go_roundg (w2.rangeLeft m.mn w.heap.size)
      case measure => exact hlt2
      case rel => exact ⟨_, HRG, by rw [hst.o]; go_num, HK2, rfl⟩
end Go.Proofs.YtdjamijbhaplgaaGreat
namespace Go.Proofs.YtdjamijbhaplgaaGreat
open Go.RowKit Go.Maps Go.Lib

theorem OwnV.rowU {w : World} {v : Value} {xs : List UInt8} (h : OwnV w 5 v (bvs xs)) : RowU w v xs := by
  refine ⟨h.own.bts, fun a n c e hc => ?_⟩
  subst e
  rcases h.2 with ⟨e0, _⟩ | ⟨g, cap, cur, e0, hb, hg, _⟩
  · cases e0
  · cases e0
    exact ⟨cur, _, hg⟩
/-- A fresh row's block is new. -/
theorem DGrew.fresh {w w' : World} {e : TypeId} {v v' : Value} {vs : List Value} (h : OwnV w' e v' vs) (f : Fresh w v') : DGrew w v v' := fun k hk => by
  rcases h.2 with ⟨rfl, _⟩ | ⟨g, cap, cur, rfl, _⟩
  · cases hk
  · simp only [datB] at hk
    split at hk
    · cases hk
    · have : g = k := by simpa using hk
      subst this
      exact .inr (f g rfl)
theorem cloneB_any (w : World) (A : Option Addr) (n c : Nat) (xs : List UInt8) (h : Bts w (.slice A n c) xs) (hl : xs.length ≤ 140737488355328) :
    Calls Tryz.prog 75 #[.slice A n c] w fun e w' => ∃ A' c', e = .returned (.slice A' xs.length c') ∧ OwnV w' 5 (.slice A' xs.length c') (bvs xs) ∧ Fresh w (.slice A' xs.length c') ∧ Keeps NoB w w' := by
  obtain ⟨rfl, h1, h2, h3, h4, h5⟩ := h.rd
  cases A with
  | none =>
    have hc := h3 rfl
    subst hc
    have hx : xs = [] := List.eq_nil_of_length_eq_zero (by omega)
    subst hx
    refine (clone_nil w _ _).mono ?_
    rintro e w' ⟨rfl, rfl⟩
    exact ⟨none, 0, rfl, (Own.nil w 0).v, fun k hk => by simp [Value.ownBlock] at hk, Keeps.refl _ _⟩
  | some a =>
    have hn : ∀ j u, (bvs xs)[j]? = some u → w.cell? (a.add j) = some u := by
      cases xs with
      | nil => intro j u hj; simp [bvs] at hj
      | cons x l =>
        obtain ⟨b, o, e, _⟩ := h5 0 (by simp)
        cases e
        exact (rd_vrd h5).news
    refine (clone_some w a c xs hl hn).mono ?_
    rintro e w' ⟨v, rfl, hv, _, hb⟩
    have hO := hv.v
    obtain ⟨A', c', rfl⟩ := hO.slice
    rw [bvs_length] at *
    exact ⟨A', c', rfl, hO, fun k hk => (World.ownsRow.lt hv k hk).1, Keeps.of_below hb NoB⟩
section
variable {P : Program} {w : World} {ops : Array Oper} {rest : List Oper} {o : Oper} {a : Act} {Q : Exit → Act → World → Prop}
/-- append of a text onto an owned row of bytes, in a region that draws. -/
theorem step_app_str {K : Act → World → Prop} {E : Prop} (hgd : o.guard = none) (sl x : Operand) (t u e : TypeId) (ho : o.op = .call { callee := .builtin .append, args := #[sl, x], argTypes := #[t, u] })
    (ht : P.underlying t = some (.slice e)) (hu : P.underlying u = some .string) (hi : (P.info? e).map (fun i => (i.zero, i.size, i.bytes)) = some (some (.int .u8 0), 1, 1))
    (v : Value) (vs : List Value) (hs : a.eval sl = v) (hown : OwnV w e v vs) (s : ByteArray) (hx : a.eval x = .string s)
    (hb : vs.length + s.size ≤ 140737488355328)
    (h : ∀ A' c' w', OwnV w' e (.slice A' (vs.length + s.size) c') (vs ++ bvs s.data.toList) → Keeps (ownB v) w w' → Grew w v (.slice A' (vs.length + s.size) c') → K (a.put o.dst (.slice A' (vs.length + s.size) c')) w') : if Region.wanted o (yielded ops a.tmps) = true then o.wp P a w K Q else E := by
  have hw : Region.wanted o (yielded ops a.tmps) = true := by simp [Region.wanted, hgd]
  rw [if_pos hw]
  have h1 : wpList P #[] Q [o] a w → True := fun _ => trivial
  obtain ⟨i0, hi', hz0, hz1, hz2⟩ := info_parts hi
  have hsz : (bvs s.data.toList).length = s.size := by rw [bvs_length]; exact Array.length_toList
  obtain ⟨v', w', hr, h2, h3, h4⟩ := run_append_own_string (P := P) w 0 t u o.type e i0 ht hu hi' hz0 hz1 hz2 v vs.length vs hown s (by unfold maxLen; omega) hb (Nat.zero_le _)
  have h5 : v'.ownBlock = v.ownBlock ∨ v'.ownBlock = some w.heap.size := by
    rcases hown.2 with ⟨rfl, hn⟩ | ⟨g, cap, cur, rfl, hbg, hg, hnc, hcm, hcs, htake⟩
    · by_cases hm : s.size = 0
      · have := h4.2 ⟨rfl, hm⟩
        rw [this]; exact .inl rfl
      · have hr2 := run_append_nil_string (P := P) w t u o.type e i0 (.int .u8 0) ht hu hi' hz0 s (by omega) (by omega) (by rw [hz2]; omega)
        rw [hr] at hr2
        injection hr2 with hv _
        rw [hv]; exact .inr rfl
    · by_cases hroom : vs.length + s.size ≤ cap
      · have hcs' : cur.size = cap := by simpa using hcs
        have hr2 := run_append_room_string (P := P) w t u o.type e i0 ht hu hi' hz1 g vs.length cap cur hg s hroom (by omega)
        rw [hr] at hr2
        injection hr2 with hv _
        rw [hv]; exact .inl rfl
      · have holds : ∀ j u, vs[j]? = some u → w.cell? ((⟨g, 0, none⟩ : Addr).add j) = some u := World.ownsRow.cells hown (g := g) rfl
        have hr2 := run_append_grow_string (P := P) w t u o.type e i0 (.int .u8 0) ht hu hi' hz0 ⟨g, 0, none⟩ vs.length cap vs (by rw [hz1]; simp) holds s (by omega) (by omega) (by rw [hz2]; exact growslice_fits (by omega) (by omega))
        rw [hr] at hr2
        injection hr2 with hv _
        rw [hv]; exact .inr rfl
  unfold Oper.wp execOp
  simp only [ho, resolve, invoke, builtin, Sem.run_bind, Sem.run_pure, Result.andThen_ok, List.map_toArray, List.map_cons, List.map_nil, hs, hx, hr]
  have e1 : (vs ++ bvs s.data.toList).length = vs.length + s.size := by rw [List.length_append, hsz]
  have h2' : OwnV w' e v' (vs ++ bvs s.data.toList) := by unfold OwnV; rw [e1]; exact h2
  obtain ⟨A', c', rfl⟩ := h2'.slice
  rw [e1] at h2' h5 ⊢
  refine h A' c' w' h2' (Keeps.of_grown h3 (fun b hb _ => hb)) ?_
  intro k hk
  rcases h5 with h5 | h5
  · rw [h5] at hk; exact .inl hk
  · rw [h5] at hk; cases hk; exact .inr (Nat.le_refl _)
end
theorem slice_hm {P : Program} (t e : TypeId) (kh km : IntKind) {i : TypeInfo} (ht : P.underlying t = some (.slice e)) (hi : P.info? e = some i) (hsz : i.size = 1) (A : Option Addr) (n c k : Nat) (hA : 0 < c → ∀ a, A = some a → a.spot = none) (h2 : k ≤ c) (W : World) (h : Int) (hh : h = k) :
    (Instr.slice t (.slice A n c) none (some (.int kh h)) (some (.int km h))).run P W = .ok (.slice A k k) W := by
  subst hh
  have hel : P.elem t = e := by simp [Program.elem, ht]
  have hu : P.underlying t = some (.slice (P.elem t)) := by rw [hel]; exact ht
  rw [run_slice_hm W t A n c hu kh km k k (by omega) (by omega) (by omega), hel]
  cases A with
  | none => simp [sizeOf, typeInfo, hi, hsz, sliced, Result.andThen]
  | some a =>
    have : 0 < c → a.add 0 = a := fun hc => by
      obtain ⟨b, o, s⟩ := a
      have := hA hc _ rfl
      simp only at this
      subst this
      rw [add_lit]; rfl
    by_cases hc : c = 0
    · subst hc
      have : k = 0 := by omega
      subst this
      simp [sizeOf, typeInfo, hi, hsz, sliced, Result.andThen]
    · by_cases hk : k = 0
      · subst hk; simp [sizeOf, typeInfo, hi, hsz, sliced, Result.andThen]
      · simp [sizeOf, typeInfo, hi, hsz, sliced, Result.andThen, this (by omega), hk]
theorem RowU.cutk {w : World} {A : Option Addr} {n c : Nat} {xs : List UInt8} (h : RowU w (.slice A n c) xs) (k : Nat) (hk : k ≤ xs.length) : RowU w (.slice A k k) (xs.take k) := by
  obtain ⟨⟨A', c', e, h1, h2, h3, h4, h5⟩, hu⟩ := h
  cases e
  have hl : (xs.take k).length = k := by simp; omega
  refine ⟨⟨A, k, by rw [hl], by omega, by omega, fun e => by have := h3 e; omega, fun hc => h4 (by omega), h5.take k⟩, fun a n c0 e hc => ?_⟩
  cases e
  exact hu a _ _ rfl (by omega)
theorem RowU.takes {w : World} {A : Option Addr} {n c : Nat} {xs : List UInt8} (h : RowU w (.slice A n c) xs) (k : Nat) (hk : k ≤ xs.length) : RowU w (.slice A k c) (xs.take k) := by
  refine ⟨h.1.take k hk, fun a n c0 e hc => ?_⟩
  cases e
  exact h.2 a _ _ rfl hc
theorem cutA_blk {a a0 : Addr} {c lo : Nat} (h : cutA (some a0) c lo = some a) : a.block = a0.block := by
  unfold cutA at h
  split at h
  · rw [Option.some.inj h]
  · simp at h; rw [← h]; unfold Addr.add; split <;> rfl
theorem RowU.drops {w : World} {A : Option Addr} {n c : Nat} {xs : List UInt8} (h : RowU w (.slice A n c) xs) (k : Nat) (hk : k ≤ xs.length) : RowU w (.slice (cutA A c k) (n - k) (c - k)) (xs.drop k) := by
  refine ⟨h.1.drop k hk, fun a m c0 e hc => ?_⟩
  obtain ⟨e1, e2, e3⟩ := Value.slice.inj e
  cases A with
  | none => simp [cutA] at e1
  | some a0 =>
    rw [cutA_blk e1]
    exact h.2 a0 _ _ rfl (by omega)
set_option maxHeartbeats 4000000 in
set_option maxRecDepth 100000 in
theorem onto_any (w : World) (d : DoneS) (A : Option Addr) (c : Nat) (xs : List UInt8) (h : RowU w (.slice A xs.length c) xs) (hp : d.pos ≤ xs.length) (hx : xs.length ≤ 67108864) (hd : d.p.length ≤ 70368744177664) :
    Calls Tryz.prog 74 #[.agg (doneCells d).toArray, .slice A xs.length c] w fun e w' => ∃ A' c', e = .returned (.slice A' (doneOn xs d).length c') ∧ RowU w' (.slice A' (doneOn xs d).length c') (doneOn xs d) ∧ Keeps NoB w w' ∧ DGrew w (.slice A xs.length c) (.slice A' (doneOn xs d).length c') := by
  obtain ⟨cut, pos, p⟩ := d
  dsimp only [doneCells] at *
  obtain ⟨i0, hi, hz0, hz1, hz2⟩ := info_parts infoU8
  have hrd := h.1.rd
  have hcap := hrd.2.1
  have hspot := hrd.2.2.2.2.1
  have H := Sd.mk h
  cases cut with
  | true =>
    have hsl : ∀ W : World, (Instr.slice 49 (.slice A xs.length c) none (some (.int .i64 (pos : Int))) (some (.int .i64 (pos : Int)))).run Tryz.prog W = .ok (.slice A pos pos) W := fun W =>
      slice_hm 49 5 .i64 .i64 Tryz.underlying49 hi hz1 A xs.length c pos (fun hc a ha => (hspot hc a ha).1) (by omega) W _ rfl
    clear h hrd hspot hcap hi hz0 hz1 hz2
    go_enter Tryz.func74, Tryz.ntmps74
    go_wp2
    go_ret
    have e1 : doneOn xs ⟨true, pos, p⟩ = xs.take pos := rfl
    have hl : (xs.take pos).length = pos := by simp; omega
    rw [e1, hl]
    exact ⟨A, pos, rfl, (H.o.keeps ((Keeps.refl NoB w).alloc _) (NotU8.noB _)).cutk pos hp, (Keeps.refl NoB w).alloc _, fun k hk => .inl (by
      have hcp := H.o.1.rd.2.1
      simp only [datB] at hk ⊢
      split at hk
      · cases hk
      · rw [if_neg (by omega)]; exact hk)⟩
  | false =>
    have hsl : ∀ W : World, (Instr.slice 49 (.slice A xs.length c) none (some (.int .i64 (pos : Int))) none).run Tryz.prog W = .ok (.slice A pos c) W := fun W =>
      slice_run_h 49 5 .i64 Tryz.underlying49 hi hz1 A xs.length c pos (fun hc a ha => (hspot hc a ha).1) (by omega) W _ rfl
    have hsl2 : ∀ W : World, ∀ k : Nat, k ≤ xs.length → (Instr.slice 49 (.slice A xs.length c) (some (.int .i64 (k : Int))) none none).run Tryz.prog W = .ok (.slice (cutA A c k) (xs.length - k) (c - k)) W := fun W k hk =>
      slice_run_l 49 5 .i64 Tryz.underlying49 hi hz1 A xs.length c k hk W _ rfl
    have e1 : Sd (doneOn xs ⟨false, pos, p⟩ = xs.take pos ++ p ++ xs.drop (pos + p.length)) := ⟨rfl⟩
    have hl : Sd ((xs.take pos).length = pos) := ⟨by simp; omega⟩
    have hps : (sOf p).size = p.length := sOf_size p
    obtain ⟨w1, hw1⟩ : ∃ w1, w1 = w.alloc (.cells #[.bool false, .int .i64 pos, .string (sOf p)] 153) := ⟨_, rfl⟩
    have hk1 : Keeps NoB w w1 := by rw [hw1]; exact (Keeps.refl NoB w).alloc _
    have HK1 := Sd.mk hk1
    have b1 : w1.heap[w.heap.size]? = some (.cells #[.bool false, .int .i64 pos, .string (sOf p)] 153 (0, 0)) := by rw [hw1]; exact heap_alloc_new w _
    have B2 : Sd (∀ wx, Keeps NoB w1 wx → wx.cell? ⟨w.heap.size, 2, none⟩ = some (.string (sOf p))) := ⟨fun wx hk => hk.cell (blk_cell b1 2) (fun f => f)⟩
    have HC : Sd (∀ wx, Keeps NoB w1 wx → Calls Tryz.prog 75 #[.slice A pos c] wx fun e w' => ∃ A' c', e = .returned (.slice A' pos c') ∧ OwnV w' 5 (.slice A' pos c') (bvs (xs.take pos)) ∧ Fresh w (.slice A' pos c') ∧ Keeps NoB w1 w') := ⟨fun wx hk => by
      have hk2 : Keeps NoB w wx := HK1.o.then hk
      have := cloneB_any wx A pos c (xs.take pos) ((H.o.takes pos hp).1.keeps hk2 (fun _ _ _ _ _ f => f)) (by rw [hl.o]; omega)
      rw [hl.o] at this
      refine this.mono fun e w' ⟨A', c', he, ho, hf, hk3⟩ => ⟨A', c', he, ho, fun i hi => Nat.le_trans hk2.size (hf i hi), hk.then hk3⟩⟩
    have HW1 := Sd.mk hw1
    clear h hrd hspot hcap hi hz0 hz1 hz2 hw1 hk1 b1
    go_enter Tryz.func74, Tryz.ntmps74
    go_upto_region 3 with fail
    rw [← HW1.o]
    go_cut [5] (fun sx wx => ∃ A' c', sx = .slice A' (pos + p.length) c' ∧ Sd (OwnV wx 5 (.slice A' (pos + p.length) c') (bvs (xs.take pos ++ p))) ∧ Sd (Fresh w (.slice A' (pos + p.length) c')) ∧ Sd (Keeps NoB w wx))
    case first =>
      have b1' : w1.cell? ⟨w.heap.size, 1, none⟩ = some (.int .i64 pos) := by rw [HW1.o]; exact blk_cell (heap_alloc_new w _) 1
      have b2' := B2.o w1 (Keeps.refl _ _)
      go_region_law
        (first
          | (refine step_app_str rfl _ _ 49 9 5 rfl Tryz.underlying49 Tryz.underlying9 infoU8' _ (bvs (xs.take pos)) rfl HO5.o (sOf p) rfl (by rw [bvs_length, hl.o, hps]; omega) ?_
             intro A6 c6 w6 HO6 HK6 HG6
             rw [bvs_length, hl.o, hps]
             rw [bvs_length, hl.o, hps, show bvs (xs.take pos) ++ bvs (sOf p).data.toList = bvs (xs.take pos ++ p) by simp [bvs, sOf]] at HO6
             rw [bvs_length, hl.o, hps] at HG6
             have HO7 := Sd.mk HO6
             have HK7 : Sd (Keeps NoB w w6) := ⟨(HK1.o.then HK5.o).fresh HF5.o HK6⟩
             have HF7 : Sd (Fresh w (.slice A6 (pos + p.length) c6)) := ⟨HF5.o.grew (HK1.o.then HK5.o).size HG6⟩
             clear HO6 HK6 HG6)
          | (go_simp; go_at_call 75
             refine (HC.o _ (Keeps.drewN (Keeps.refl NoB w1) 1)).mono ?_
             rintro e w5 ⟨A5, c5, rfl, ho5, hf5, hk5⟩
             have HO5 := Sd.mk ho5
             have HF5 := Sd.mk hf5
             have HK5 := Sd.mk hk5
             have hq5 := B2.o w5 hk5
             clear ho5 hf5 hk5))
      all_goals (go_wp2_with fail; go_meet; exact ⟨A6, c6, rfl, HO7, HF7, HK7⟩)
    obtain ⟨A6, c6, rfl, HO6, HF6, HK6⟩ := hcut
    obtain ⟨w6, hw6⟩ : ∃ w6, w6 = wc := ⟨_, rfl⟩
    subst hw6
    clear HC B2 HW1 HK1 hsl
    by_cases hlt : pos + p.length < xs.length
    · have hq : decide ((pos : Int) + (p.length : Int) < (xs.length : Int)) = true := by simp; omega
      have hs2 := hsl2 w6 (pos + p.length) (by omega)
      rw [Int.natCast_add] at hs2
      have HD : Sd (RowU w6 (.slice (cutA A c (pos + p.length)) (xs.length - (pos + p.length)) (c - (pos + p.length))) (xs.drop (pos + p.length))) := ⟨by
        have h1 := H.o.keeps HK6.o (NotU8.noB w)
        exact h1.drops (pos + p.length) (by omega)⟩
      clear hsl2
      go_wp2_with (at_builtin; go_must (refine app_any rfl _ _ 49 5 (.int .u8 0) 1 rfl Tryz.underlying49 infoU8' rfl _ (bvs (xs.take pos ++ p)) rfl HO6.o (cutA A c (pos + p.length)) (xs.length - (pos + p.length)) (c - (pos + p.length)) (bvs (xs.drop (pos + p.length))) rfl (by rw [bvs_length, List.length_drop]) (rd_vrd HD.o.1.rd.2.2.2.2.2) (bvs_one _) (by rw [bvs_length, List.length_append, hl.o]; omega) (by rw [bvs_length, List.length_append, hl.o]; omega) ?_); intro A7 c7 w7 HO7 HK7 HG7; rw [bvs_length, List.length_append, hl.o]; rw [bvs_length, List.length_append, hl.o, ← bvs_append, ← e1.o] at HO7; have HO8 := Sd.mk HO7; have HK8 : Sd (Keeps NoB w w7) := ⟨HK6.o.fresh HF6.o HK7⟩; rw [bvs_length, List.length_append, hl.o] at HG7; have HF8 := Sd.mk (HF6.o.grew HK6.o.size HG7); clear HO7 HK7 HG7)
      go_ret
      have h4 : (doneOn xs ⟨false, pos, p⟩).length = pos + p.length + (xs.length - (pos + p.length)) := by rw [e1.o, List.length_append, List.length_append, hl.o, List.length_drop]
      rw [h4]
      exact ⟨A7, c7, rfl, HO8.o.rowU, HK8.o, DGrew.fresh HO8.o HF8.o⟩
    · have hq : decide ((pos : Int) + (p.length : Int) < (xs.length : Int)) = false := by simp; omega
      clear hsl2
      go_wp2
      go_ret
      have h2 : xs.drop (pos + p.length) = [] := List.drop_eq_nil_of_le (by omega)
      have h3 : doneOn xs ⟨false, pos, p⟩ = xs.take pos ++ p := by rw [e1.o, h2, List.append_nil]
      have h4 : (xs.take pos ++ p).length = pos + p.length := by rw [List.length_append, hl.o]
      rw [h3, h4]
      exact ⟨A6, c6, rfl, HO6.o.rowU, HK6.o, DGrew.fresh HO6.o HF6.o⟩
end Go.Proofs.YtdjamijbhaplgaaGreat
