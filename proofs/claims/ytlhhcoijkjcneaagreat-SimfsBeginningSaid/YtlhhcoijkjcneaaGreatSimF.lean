/- simfs: there, Used, Waiting: what ranges over the names. -/
import Derived.Test.YtlhhcoijkjcneaaGreatGp
namespace Go.Proofs.YtlhhcoijkjcneaaGreat
open Go.RowKit Go.Maps

theorem Keeps.iter {w w1 w2 : World} {r : Nat} (h : Keeps NoB w w1) (k : Keeps (OneB r) w1 w2) (hr : w.heap.size ≤ r) : Keeps NoB w w2 :=
  h.trans k (fun _ _ f => f) (fun i hi f => by cases f; omega)
/-- What there finds. -/
def thereP (off : Bool) (d : Dir) (g : Nat → Option Nat) (n : Int) : Option Addr :=
  if off then none else if d.any (fun e => ((e.2 : Nat) : Int) == n) then (g n.toNat).map (fun fb => ⟨fb, 0, none⟩) else none
def thereE (off : Bool) (d : Dir) (n : Int) : Int := if off then 21 else if d.any (fun e => ((e.2 : Nat) : Int) == n) then 0 else 7
theorem any_num {d : Dir} {s : List UInt8} {k : Nat} (h : d.lookup s = some k) {n : Int} (hn : (k : Int) = n) : d.any (fun e => ((e.2 : Nat) : Int) == n) = true :=
  List.any_eq_true.2 ⟨(s, k), lookup_mem h, by simpa using hn⟩
theorem not_any_num {d : Dir} (hd : (d.map (·.1)).Nodup) {n : Int} (h : ∀ s k, d.lookup s = some k → (k : Int) ≠ n) : d.any (fun e => ((e.2 : Nat) : Int) == n) = false := by
  cases ha : d.any (fun e => ((e.2 : Nat) : Int) == n) with
  | false => rfl
  | true =>
    obtain ⟨⟨s, k⟩, he, hk⟩ := List.any_eq_true.1 ha
    exact absurd (by simpa using hk) (h s k (mem_lookup hd he))
theorem there_nil (w : World) (n : Int) : Calls Tryz.prog 34 #[.pointer none, .int .i64 n] w fun e w' => e = .returned (.tuple #[.pointer none, .int .i64 7]) ∧ w = w' := by
  go_enter Tryz.func34, Tryz.ntmps34
  go_wp2_with (go_at_call 69; refine (on_nil w).mono ?_; rintro e w' ⟨rfl, rfl⟩)
  go_ret2
  exact ⟨rfl, rfl⟩
set_option maxHeartbeats 2000000 in
theorem there_some (w : World) (b mf mn N : Nat) (d : Dir) (g : Nat → Option Nat) (off : Bool) (h0 : w.cell? ⟨b, 0, none⟩ = some (.map (some mf))) (h2 : w.cell? ⟨b, 2, none⟩ = some (.map (some mn))) (h8 : w.cell? ⟨b, 8, none⟩ = some (.bool off))
    (hN : MapN w mn d) (hF : MapF w mf N g) (hd : (d.map (·.1)).Nodup) (hlow : ∀ e ∈ d, e.2 ≤ 4611686018427387904) (n : Int) :
    Calls Tryz.prog 34 #[.pointer (some ⟨b, 0, none⟩), .int .i64 n] w fun e w' => e = .returned (.tuple #[.pointer (thereP off d g n), .int .i64 (thereE off d n)]) ∧ Keeps NoB w w' := by
  have HON := Sd.mk (on_some w b off h8)
  have HN := Sd.mk hN
  have HF := Sd.mk hF
  have HD := Sd.mk hd
  have HL := Sd.mk hlow
  have C0 := Sd.mk h0
  have C2 := Sd.mk h2
  clear h8 hN hF hd hlow h0
  cases off with
  | true =>
    go_enter Tryz.func34, Tryz.ntmps34
    go_wp2_with (go_at_call 69; refine HON.o.mono ?_; rintro e w' ⟨rfl, rfl⟩)
    go_ret2
    exact ⟨rfl, Keeps.refl _ _⟩
  | false =>
    go_enter Tryz.func34, Tryz.ntmps34
    go_wp2_with (first | (go_at_call 69; refine HON.o.mono ?_; rintro e w' ⟨rfl, rfl⟩) | (at_range; refine wpList_range_names rfl _ rfl rfl HN.o ?_; intro w1 hrg hk hs))
    go_frame
    have HK1 := Sd.mk hk
    have HR1 := Sd.mk hrg
    clear HON h2 hk hrg
    go_loopg [8, 19] (w1.rangeLeft mn w.heap.size) (fun gk m t wr => ∃ left, Sd (RangeN wr mn w.heap.size d left) ∧ Sd (∀ x k, left x = false → d.lookup x = some k → (k : Int) ≠ n) ∧ Sd (Keeps NoB w wr) ∧ gk = wr.rangeLeft mn w.heap.size)
    case atStart => exact ⟨_, HR1, ⟨fun x k hx hl => by rw [hl] at hx; cases hx⟩, HK1, rfl⟩
    case round =>
      obtain ⟨left, HR, HNO, HK, rfl⟩ := hrel
      go_wp2_with (at_next; refine wpList_next_names rfl _ rfl rfl HR.o ?done ?more)
      case done =>
        intro hl
        have hE : Sd (thereP false d g n = none ∧ thereE false d n = 7) := ⟨by
          have := not_any_num HD.o (n := n) (fun s k h => HNO.o s k (hl s) h)
          unfold thereP thereE
          rw [this]
          exact ⟨rfl, rfl⟩⟩
        clear hl
        go_wp2
        go_ret2
        exact ⟨by rw [hE.o.1, hE.o.2]; rfl, HK.o⟩
      case more =>
        intro S k w2 hS hlk hlt hrg hk hlt2 hen
        have HK2 : Sd (Keeps NoB w w2) := ⟨HK.o.iter hk (Nat.le_refl _)⟩
        have HRG := Sd.mk hrg
        have HLK := Sd.mk hlk
        clear hS hlk hlt hrg hk
        by_cases hkn : (k : Int) = n
        · subst hkn
          have c0 : w2.cell? ⟨b, 0, none⟩ = some (.map (some mf)) := HK2.o.cell C0.o (fun f => f)
          have hlook := (HF.o.keeps HK2.o (fun f => f)).look k (HL.o _ (lookup_mem HLK.o))
          have hE : Sd (thereP false d g k = (g k).map (fun fb => ⟨fb, 0, none⟩) ∧ thereE false d k = 0) := ⟨by
            have := any_num HLK.o (n := (k : Int)) rfl
            unfold thereP thereE
            rw [this]
            exact ⟨rfl, rfl⟩⟩
          go_wp2
          go_ret2
          exact ⟨by rw [hE.o.1, hE.o.2]; rfl, HK2.o⟩
        · have hq : ((k : Int) == n) = false := by simpa using hkn
          go_wp2
          go_roundg (w2.rangeLeft mn w.heap.size)
          case measure => exact hlt2
          case rel =>
            refine ⟨_, HRG, ⟨fun x j hx hl => ?_⟩, HK2, rfl⟩
            by_cases hxs : x = S.data.toList
            · subst hxs
              rw [HLK.o] at hl; cases hl; exact hkn
            · refine HNO.o x j ?_ hl
              have hb : (x != S.data.toList) = true := by simpa using hxs
              rw [hb] at hx
              simpa using hx
/-- A file system's cells. -/
theorem IsFS.c {w : World} {m : FsMem} {s : FSt} (h : IsFS w m s) : w.cell? ⟨m.b, 0, none⟩ = some (.map (some m.mf)) ∧ w.cell? ⟨m.b, 1, none⟩ = some (.int .i64 (s.F.length : Nat)) ∧ w.cell? ⟨m.b, 2, none⟩ = some (.map (some m.mn)) ∧ w.cell? ⟨m.b, 3, none⟩ = some (.map (some m.ms)) ∧
    w.cell? ⟨m.b, 4, none⟩ = some m.mv ∧ w.cell? ⟨m.b, 5, none⟩ = some (.int .i64 s.cap) ∧ w.cell? ⟨m.b, 6, none⟩ = some (.int .i64 (s.ops : Nat)) ∧ w.cell? ⟨m.b, 7, none⟩ = some (.int .i64 s.left) ∧ w.cell? ⟨m.b, 8, none⟩ = some (.bool s.off) :=
  ⟨blk_cell h.blk 0, blk_cell h.blk 1, blk_cell h.blk 2, blk_cell h.blk 3, blk_cell h.blk 4, blk_cell h.blk 5, blk_cell h.blk 6, blk_cell h.blk 7, blk_cell h.blk 8⟩
theorem IsFile.c {w : World} {f : FMem} {x : FileS} (h : IsFile w f x) : w.cell? ⟨f.fb, 0, none⟩ = some f.dv ∧ w.cell? ⟨f.fb, 1, none⟩ = some f.sv ∧ w.cell? ⟨f.fb, 2, none⟩ = some f.lv :=
  ⟨blk_cell h.blk 0, blk_cell h.blk 1, blk_cell h.blk 2⟩
theorem RowU.slice {w : World} {v : Value} {xs : List UInt8} (h : RowU w v xs) : ∃ A c, v = .slice A xs.length c := by
  obtain ⟨A, c, e, _⟩ := h.1
  exact ⟨A, c, e⟩
theorem there_fs (w : World) (m : FsMem) (s : FSt) (h : IsFS w m s) (ok : FsOk s) (hN : s.F.length ≤ 4611686018427387904) (n : Int) :
    Calls Tryz.prog 34 #[.pointer (some ⟨m.b, 0, none⟩), .int .i64 n] w fun e w' => ∃ p, e = .returned (.tuple #[.pointer p, .int .i64 (s.there n)]) ∧ Keeps NoB w w' ∧
      (s.there n ≠ 0 → p = none) ∧ (s.there n = 0 → s.off = false ∧ ∃ (k : Nat) (f : FMem), n = k ∧ k ≤ s.F.length ∧ m.g k = some f ∧ p = some ⟨f.fb, 0, none⟩) := by
  have hlow : ∀ e ∈ s.D, e.2 ≤ 4611686018427387904 := fun e he => Nat.le_trans (ok.dirD.low e he).2 hN
  refine (there_some w m.b m.mf m.mn _ s.D _ s.off h.c.1 h.c.2.2.1 h.c.2.2.2.2.2.2.2.2 h.names h.files ok.dirD.names hlow n).mono fun e w' ⟨he, hk⟩ => ?_
  refine ⟨_, he, hk, fun hne => ?_, fun h0 => ?_⟩
  · unfold thereP
    unfold FSt.there at hne
    split
    · rfl
    · split
      · rename_i h1 h2; rw [if_neg h1, if_pos h2] at hne; exact absurd rfl hne
      · rfl
  · unfold FSt.there at h0
    split at h0
    · cases h0
    · rename_i hoff
      split at h0
      · rename_i ha
        obtain ⟨e1, he1, hn1⟩ := List.any_eq_true.1 ha
        have hn2 : (e1.2 : Int) = n := by simpa using hn1
        obtain ⟨f, hf⟩ := Option.isSome_iff_exists.1 (h.has.1 e1 he1)
        refine ⟨by simpa using hoff, e1.2, f, hn2.symm, (ok.dirD.low e1 he1).2, hf, ?_⟩
        unfold thereP
        rw [if_neg hoff, if_pos ha, ← hn2, Int.toNat_natCast]
        dsimp only
        rw [hf]
        rfl
      · cases h0

/-- Of those who are no longer to come. -/
def sumOff (d : Dir) (left : List UInt8 → Bool) (f : Nat → Nat) : Nat := (d.map fun e => if left e.1 then 0 else f e.2).sum
theorem sumOff_all (d : Dir) (left : List UInt8 → Bool) (f : Nat → Nat) (h : ∀ e ∈ d, left e.1 = true) : sumOff d left f = 0 := by
  unfold sumOff
  induction d with
  | nil => rfl
  | cons e d ih =>
    rw [List.map_cons, List.sum_cons, ih (fun x hx => h x (by simp [hx])), h e (by simp)]
    rfl
theorem sumOff_none (d : Dir) (left : List UInt8 → Bool) (f : Nat → Nat) (h : ∀ s, left s = false) : sumOff d left f = (d.map fun e => f e.2).sum := by
  unfold sumOff
  congr 1
  refine List.map_congr_left fun e _ => ?_
  rw [h]; rfl
theorem sumOff_step {d : Dir} (hd : (d.map (·.1)).Nodup) {left : List UInt8 → Bool} {f : Nat → Nat} {s : List UInt8} {k : Nat} (hl : d.lookup s = some k) (hs : left s = true) : sumOff d (fun x => left x && x != s) f = sumOff d left f + f k := by
  unfold sumOff
  induction d with
  | nil => simp at hl
  | cons e d ih =>
    obtain ⟨a, n⟩ := e
    simp only [List.map_cons, List.nodup_cons] at hd
    rw [List.map_cons, List.sum_cons, List.map_cons, List.sum_cons]
    by_cases ha : s = a
    · subst ha
      simp at hl
      subst hl
      have hsame : (d.map fun e => if (left e.1 && e.1 != s) then 0 else f e.2) = d.map fun e => if left e.1 then 0 else f e.2 := by
        refine List.map_congr_left fun e he => ?_
        have : e.1 ≠ s := fun h => hd.1 (List.mem_map.2 ⟨e, he, h⟩)
        have hb : (e.1 != s) = true := by simpa using this
        rw [hb, Bool.and_true]
      rw [hsame]
      simp [hs]
      omega
    · have hb : (s == a) = false := by simpa using ha
      rw [List.lookup_cons, hb] at hl
      have hb2 : (a != s) = true := by simpa using fun h => ha h.symm
      rw [ih hd.2 hl]
      simp only [hb2, Bool.and_true]
      omega
theorem sumOff_le (d : Dir) (left : List UInt8 → Bool) (f : Nat → Nat) (B : Nat) (h : ∀ n, f n ≤ B) : sumOff d left f ≤ d.length * B := by
  unfold sumOff
  induction d with
  | nil => simp
  | cons e d ih =>
    rw [List.map_cons, List.sum_cons, List.length_cons, Nat.succ_mul]
    have := h e.2
    split <;> omega
set_option maxHeartbeats 2000000 in
theorem used_fs (w : World) (m : FsMem) (s : FSt) (h : IsFS w m s) (ok : FsOk s) (fo : FilesOk s) (hN : s.F.length ≤ 4611686018427387904) :
    Calls Tryz.prog 58 #[.pointer (some ⟨m.b, 0, none⟩)] w fun e w' => e = .returned (.int .i64 (s.used : Nat)) ∧ Keeps NoB w w' := by
  have hlow : Sd (∀ e ∈ s.D, e.2 ≤ 4611686018427387904) := ⟨fun e he => Nat.le_trans (ok.dirD.low e he).2 hN⟩
  have h2 := h.c.2.2.1
  have H := Sd.mk h
  have HD := Sd.mk ok.dirD.names
  have hlen := ok.len
  have HB := Sd.mk fo.small
  clear h ok fo hN
  go_enter Tryz.func58, Tryz.ntmps58
  go_wp2_with (at_range; refine wpList_range_names rfl _ rfl rfl H.o.names ?_; intro w1 hrg hk hs)
  go_frame
  have HK1 := Sd.mk hk
  have HR1 := Sd.mk hrg
  clear h2 hk hrg
  go_loopg [2, 4, 12] (w1.rangeLeft m.mn w.heap.size) (fun gk v _ _ wr => ∃ left, Sd (RangeN wr m.mn w.heap.size s.D left) ∧ v = .int .i64 (sumOff s.D left (fun n => (s.file n).data.length) : Nat) ∧ Sd (Keeps NoB w wr) ∧ gk = wr.rangeLeft m.mn w.heap.size)
  case atStart => exact ⟨_, HR1, by rw [sumOff_all _ _ _ (fun e he => by rw [mem_lookup HD.o (show (e.1, e.2) ∈ s.D from he)]; rfl)]; rfl, HK1, rfl⟩
  case round =>
    obtain ⟨left, HR, rfl, HK, rfl⟩ := hrel
    go_wp2_with (at_next; refine wpList_next_names rfl _ rfl rfl HR.o ?done ?more)
    case done =>
      intro hl
      have hE := Sd.mk (sumOff_none s.D left (fun n => (s.file n).data.length) hl)
      clear hl
      go_wp2
      go_ret
      exact ⟨by rw [hE.o]; rfl, HK.o⟩
    case more =>
      intro S k w2 hS hlk hlt hrg hk hlt2 hen
      have HK2 : Sd (Keeps NoB w w2) := ⟨HK.o.iter hk (Nat.le_refl _)⟩
      have HRG := Sd.mk hrg
      have hmem := lookup_mem hlk
      have hI := H.o.kept HK2.o
      obtain ⟨f, hf⟩ := Option.isSome_iff_exists.1 (hI.has.1 _ hmem)
      have hfile := (hI.file k f hf).2.2
      have c0 := hI.c.1
      have hlook := hI.files.look k (hlow.o _ hmem)
      rw [hf] at hlook
      have cd := hfile.c.1
      obtain ⟨Ad, cc, hdv⟩ := hfile.dat.slice
      rw [hdv] at cd
      have hsm := HB.o k
      have hle := sumOff_le s.D left (fun n => (s.file n).data.length) 67108864 HB.o
      have hst := Sd.mk (sumOff_step HD.o (f := fun n => (s.file n).data.length) hlk hlt)
      generalize sumOff s.D left (fun n => (s.file n).data.length) = acc at *
      have hacc : acc ≤ 274877906944 := Nat.le_trans hle (by omega)
      clear hS hlk hlt hrg hk hmem hI hfile hle
      go_wp2
      go_roundg (w2.rangeLeft m.mn w.heap.size)
      case measure => exact hlt2
      case rel => exact ⟨_, HRG, by rw [hst.o]; go_num, HK2, rfl⟩
set_option maxHeartbeats 2000000 in
theorem waiting_fs (w : World) (m : FsMem) (s : FSt) (h : IsFS w m s) (ok : FsOk s) (hN : s.F.length ≤ 4611686018427387904) (n : Int) :
    Calls Tryz.prog 27 #[.pointer (some ⟨m.b, 0, none⟩), .int .i64 n] w fun e w' => e = .returned (.int .i64 (s.waiting n : Nat)) ∧ Keeps NoB w w' := by
  have hlow : Sd (∀ e ∈ s.D, e.2 ≤ 4611686018427387904) := ⟨fun e he => Nat.le_trans (ok.dirD.low e he).2 hN⟩
  have h2 := h.c.2.2.1
  have H := Sd.mk h
  have HD := Sd.mk ok.dirD.names
  clear h ok hN
  go_enter Tryz.func27, Tryz.ntmps27
  go_wp2_with (at_range; refine wpList_range_names rfl _ rfl rfl H.o.names ?_; intro w1 hrg hk hs)
  go_frame
  have HK1 := Sd.mk hk
  have HR1 := Sd.mk hrg
  clear h2 hk hrg
  go_loopg [6, 14] (w1.rangeLeft m.mn w.heap.size) (fun gk _ _ wr => ∃ left, Sd (RangeN wr m.mn w.heap.size s.D left) ∧ Sd (∀ x k, left x = false → s.D.lookup x = some k → (k : Int) ≠ n) ∧ Sd (Keeps NoB w wr) ∧ gk = wr.rangeLeft m.mn w.heap.size)
  case atStart => exact ⟨_, HR1, ⟨fun x k hx hl => by rw [hl] at hx; cases hx⟩, HK1, rfl⟩
  case round =>
    obtain ⟨left, HR, HNO, HK, rfl⟩ := hrel
    go_wp2_with (at_next; refine wpList_next_names rfl _ rfl rfl HR.o ?done ?more)
    case done =>
      intro hl
      have hE : Sd (s.waiting n = 0) := ⟨by
        have := not_any_num HD.o (n := n) (fun x k h => HNO.o x k (hl x) h)
        unfold FSt.waiting
        rw [this]
        rfl⟩
      clear hl
      go_wp2
      go_ret
      exact ⟨by rw [hE.o]; rfl, HK.o⟩
    case more =>
      intro S k w2 hS hlk hlt hrg hk hlt2 hen
      have HK2 : Sd (Keeps NoB w w2) := ⟨HK.o.iter hk (Nat.le_refl _)⟩
      have HRG := Sd.mk hrg
      have HLK := Sd.mk hlk
      have hmem := lookup_mem hlk
      have hI := H.o.kept HK2.o
      obtain ⟨f, hf⟩ := Option.isSome_iff_exists.1 (hI.has.1 _ hmem)
      have hfile := (hI.file k f hf).2.2
      have c0 := hI.c.1
      have hlook := hI.files.look k (hlow.o _ hmem)
      rw [hf] at hlook
      have cl := hfile.c.2.2
      obtain ⟨Al, cc, hlv, _⟩ := OwnW.slice hfile.log
      rw [hlv] at cl
      clear hS hlk hlt hrg hk hmem hI hfile
      by_cases hkn : (k : Int) = n
      · subst hkn
        have hE : Sd (s.waiting k = (s.file k).log.length) := ⟨by
          have := any_num HLK.o (n := (k : Int)) rfl
          unfold FSt.waiting
          rw [this]
          rfl⟩
        go_wp2
        go_ret
        exact ⟨by rw [hE.o]; rfl, HK2.o⟩
      · have hq : ((k : Int) == n) = false := by simpa using hkn
        go_wp2
        go_roundg (w2.rangeLeft m.mn w.heap.size)
        case measure => exact hlt2
        case rel =>
          refine ⟨_, HRG, ⟨fun x j hx hl => ?_⟩, HK2, rfl⟩
          by_cases hxs : x = S.data.toList
          · subst hxs
            rw [HLK.o] at hl; cases hl; exact hkn
          · refine HNO.o x j ?_ hl
            have hb : (x != S.data.toList) = true := by simpa using hxs
            rw [hb] at hx
            simpa using hx
end Go.Proofs.YtlhhcoijkjcneaaGreat
