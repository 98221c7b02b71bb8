/- SimfsFull: a file system, its copy, and an act. -/
import Derived.Test.YtplnneicmdlahaaSimCp
import Derived.Test.YtplnneicmdlahaaSimLo
import Derived.Test.YtplnneicmdlahaaSimRo
import Derived.Test.YtplnneicmdlahaaSimSb
import Derived.Test.YtplnneicmdlahaaSimEs
namespace Go.Proofs.Ytplnneicmdlahaa
open Go.RowKit Go.Maps Go.Lib

theorem app_any_run {P : Program} {w : World} (t e ty : TypeId) (z : Value) (bytes : Nat) (ht : P.underlying t = some (.slice e)) (hi : (P.info? e).map (fun i => (i.zero, i.size, i.bytes)) = some (some z, 1, bytes)) (hzs : z.cells.size = 1)
    (v : Value) (vs : List Value) (hown : OwnV w e v vs) (B : Option Addr) (m c : Nat) (news : List Value) (hl : news.length = m) (hnews : VRd w B news) (h1 : ∀ u ∈ news, u.oneCell' = true)
    (h63 : vs.length + m ≤ 9223372036854775807) (hbytes : (vs.length + m) * bytes ≤ 140737488355328) :
    ∃ A' c' w', (Builtin.append_ #[t, t] ty #[v, .slice B m c]).run P w = .ok (.slice A' (vs.length + m) c') w' ∧ OwnV w' e (.slice A' (vs.length + m) c') (vs ++ news) ∧ Keeps (ownB v) w w' ∧ Grew w v (.slice A' (vs.length + m) c') := by
  obtain ⟨i0, hi', hz0, hz1, hz2⟩ := info_parts hi
  cases B with
  | some ad =>
    have hn : ∀ j u, news[j]? = some u → w.cell? (ad.add j) = some u := by
      cases news with
      | nil => intro j u hj; simp at hj
      | cons x l =>
        obtain ⟨b, o, e, _⟩ := hnews 0 (by simp)
        cases e
        exact hnews.news
    obtain ⟨v', w', hr, h2, h3, _, h5⟩ := run_append_own_at (P := P) w 0 t ty e i0 z 1 bytes ht hi' hz0 hz1 hz2 hzs (by decide) v vs.length vs hown ad m c news (by omega) hn h1 (by unfold maxLen; omega) hbytes (Nat.zero_le _)
    have e1 : (vs ++ news).length = vs.length + m := by simp; omega
    have h2' : OwnV w' e v' (vs ++ news) := by unfold OwnV; rw [e1]; exact h2
    obtain ⟨A', c', rfl⟩ := h2'.slice
    rw [e1] at h2' h5 hr
    refine ⟨A', c', w', hr, h2', Keeps.of_grown h3 (fun b hb _ => hb), fun k hk => ?_⟩
    rcases h5 with h5 | h5
    · rw [h5] at hk; exact .inl hk
    · rw [h5] at hk; cases hk; exact .inr (Nat.le_refl _)
  | none =>
    have hm : news = [] := by
      cases news with
      | nil => rfl
      | cons u l => obtain ⟨b, o, e, _⟩ := hnews 0 (by simp); cases e
    subst hm
    subst hl
    obtain ⟨A, cc, rfl⟩ := hown.slice
    exact ⟨A, cc, w, run_append_none (P := P) w t ty e i0 ht hi' A vs.length cc c hown.vrd.2.1, by simpa using hown, Keeps.refl _ _, Grew.refl _ _⟩
/-- append([]byte{}, x...): a copy, as an equation. -/
theorem bytes_copy (w : World) (A : Option Addr) (c : Nat) (xs : List UInt8) (hb : Bts w (.slice A xs.length c) xs) (hn : xs.length ≤ 140737488355328) :
    ∃ A' c' w', (Builtin.append_ #[22, 22] 22 #[.slice (some ⟨w.heap.size, 0, none⟩) 0 0, .slice A xs.length c]).run Try.prog (w.alloc (.cells #[] 5)) = .ok (.slice A' xs.length c') w' ∧ RowU w' (.slice A' xs.length c') xs ∧ Keeps NoB w w' := by
  have hka : Keeps NoB w (w.alloc (.cells #[] 5)) := (Keeps.refl NoB w).alloc _
  obtain ⟨A', c', w', hr, ho, hk, hg⟩ := app_any_run (P := Try.prog) (w := w.alloc (.cells #[] 5)) 22 5 22 (.int .u8 0) 1 Try.underlying22 infoU8' rfl _ [] (own_lit w 5 [] (by simp)) A xs.length c (bvs xs) (bvs_length xs)
    ((rd_vrd hb.rd.2.2.2.2.2).keeps hka (fun _ _ _ _ f => f)) (bvs_one xs) (by simp only [List.length_nil]; omega) (by simp only [List.length_nil]; omega)
  simp only [List.length_nil, Nat.zero_add, List.nil_append] at hr ho hk hg
  exact ⟨A', c', w', hr, OwnV.rowU ho, hka.fresh (fresh_lit w _ _) hk⟩

/-- A file system s at b, its copy t at c, and another block. -/
def TwoAt (w0 : World) (b c ga : Nat) (o : Obj) (s t : FSt) (w : World) : Prop :=
  ∃ m m2 : FsMem, m.b = b ∧ m2.b = c ∧ IsFS w m s ∧ IsFS w m2 t ∧ (∀ k, m.O k → w0.heap.size ≤ k ∧ k ≠ ga ∧ ¬ m2.O k) ∧ Keeps NoB w0 w ∧ w.heap[ga]? = some o
section
variable {w0 w w' : World} {b c ga N : Nat} {o : Obj} {s t s' : FSt}
theorem TwoAt.kept (h : TwoAt w0 b c ga o s t w) (k : Keeps NoB w w') : TwoAt w0 b c ga o s t w' := by
  obtain ⟨m, m2, e1, e2, hi, hi2, ho, hk, hg⟩ := h
  exact ⟨m, m2, e1, e2, hi.kept k, hi2.kept k, ho, hk.then k, k.obj hg (fun f => f)⟩
theorem TwoAt.live (h : TwoAt w0 b c ga o s t w) : LiveAt w0 b s w := by
  obtain ⟨m, m2, e1, e2, hi, hi2, ho, hk, hg⟩ := h
  exact ⟨m, e1, hi, fun k hk => (ho k hk).1, hk⟩
theorem TwoAt.blk (h : TwoAt w0 b c ga o s t w) : w.heap[ga]? = some o := by
  obtain ⟨m, m2, e1, e2, hi, hi2, ho, hk, hg⟩ := h
  exact hg
theorem TwoAt.keeps (h : TwoAt w0 b c ga o s t w) : Keeps NoB w0 w := by
  obtain ⟨m, m2, e1, e2, hi, hi2, ho, hk, hg⟩ := h
  exact hk
theorem TwoAt.op {m m2 : FsMem} (hi : IsFS w m s) (hi2 : IsFS w m2 t) (ho : ∀ k, m.O k → w0.heap.size ≤ k ∧ k ≠ ga ∧ ¬ m2.O k) (hk : Keeps NoB w0 w) (hg : w.heap[ga]? = some o) (h : FsTo w m s' w') : TwoAt w0 m.b m2.b ga o s' t w' := by
  obtain ⟨m', hb, hi', hgr, hk'⟩ := h
  have hlt : ga < w.heap.size := (Array.getElem?_eq_some_iff.1 hg).1
  refine ⟨m', m2, hb, rfl, hi', hi2.keeps hk' (fun i hi3 hm => (ho i hm).2.2 hi3) (FsMem.notU8 hi), fun k hkk => ?_, hk.trans hk' (fun _ _ e => e) (fun i hi e => absurd (ho i e).1 (by omega)), hk'.obj hg (fun e => (ho _ e).2.1 rfl)⟩
  rcases hgr k hkk with h1 | h1
  · exact ho k h1
  · exact ⟨Nat.le_trans hk.size h1, by omega, fun h2 => by have := FsMem.lt hi2 k h2; omega⟩
theorem ta_copy (h : LiveAt w0 b s w) (inv : Inv N s) (hN : N ≤ 900000000) (o : Obj) :
    Calls Try.prog 19 #[.pointer (some ⟨b, 0, none⟩)] (w.alloc o) fun e w' => ∃ c, e = .returned (.pointer (some ⟨c, 0, none⟩)) ∧ TwoAt w0 b c w.heap.size o s s w' := by
  obtain ⟨m, rfl, hi, ho, hk⟩ := h
  have ha : Keeps NoB w (w.alloc o) := (Keeps.refl NoB w).alloc o
  have hsz : (w.alloc o).heap.size = w.heap.size + 1 := by show (w.heap.push _).size = _; simp
  refine (copy_fs (w.alloc o) m s N (hi.kept ha) inv hN).mono fun e w' ⟨m2, he, hi2, ho2, hk2⟩ => ⟨m2.b, he, m, m2, rfl, rfl, (hi.kept ha).kept hk2, hi2, fun k hkk => ⟨ho k hkk, ?_, fun h2 => ?_⟩, (hk.then ha).then hk2, hk2.obj (heap_alloc_new w o) (fun f => f)⟩
  · have := FsMem.lt hi k hkk
    omega
  · have := FsMem.lt hi k hkk
    have := ho2 k h2
    omega
theorem ta_create (h : TwoAt w0 b c ga o s t w) (inv : Inv N s) (hN : N ≤ 900000000) (S : ByteArray) (hS : S.size ≤ 9223372036854775807) :
    Calls Try.prog 8 #[.pointer (some ⟨b, 0, none⟩), .string S] w fun e w' => e = .returned (.tuple #[.int .i64 (s.create S.data.toList).1, .int .i64 (s.create S.data.toList).2.1]) ∧ TwoAt w0 b c ga o (s.create S.data.toList).2.2 t w' := by
  obtain ⟨m, m2, rfl, rfl, hi, hi2, ho, hk, hg⟩ := h
  exact (create_fs w m s N hi inv hN S hS).mono fun e w' ⟨he, hf⟩ => ⟨he, TwoAt.op hi hi2 ho hk hg hf⟩
theorem ta_write (h : TwoAt w0 b c ga o s t w) (inv : Inv N s) (hN : N ≤ 900000000) (n pos : Int) (hp : Is64 pos) (A : Option Addr) (cc : Nat) (q : List UInt8) (hq : RowU w (.slice A q.length cc) q) (hql : q.length ≤ 70368744177664) :
    Calls Try.prog 20 #[.pointer (some ⟨b, 0, none⟩), .int .i64 n, .int .i64 pos, .slice A q.length cc] w fun e w' => e = .returned (.int .i64 (s.write n pos q).1) ∧ TwoAt w0 b c ga o (s.write n pos q).2 t w' := by
  obtain ⟨m, m2, rfl, rfl, hi, hi2, ho, hk, hg⟩ := h
  exact (write_fs w m s N hi inv (by omega) n pos hp.1 hp.2 A cc q hq.1 hql).mono fun e w' ⟨he, hf⟩ => ⟨he, TwoAt.op hi hi2 ho hk hg hf⟩
theorem ta_append (h : TwoAt w0 b c ga o s t w) (inv : Inv N s) (hN : N ≤ 900000000) (n : Int) (A : Option Addr) (cc : Nat) (q : List UInt8) (hq : RowU w (.slice A q.length cc) q) (hql : q.length ≤ 70368744177664) :
    Calls Try.prog 9 #[.pointer (some ⟨b, 0, none⟩), .int .i64 n, .slice A q.length cc] w fun e w' => e = .returned (.int .i64 (s.append n q).1) ∧ TwoAt w0 b c ga o (s.append n q).2 t w' := by
  obtain ⟨m, m2, rfl, rfl, hi, hi2, ho, hk, hg⟩ := h
  exact (append_fs w m s N hi inv (by omega) n A cc q hq.1 hql).mono fun e w' ⟨he, hf⟩ => ⟨he, TwoAt.op hi hi2 ho hk hg hf⟩
theorem ta_cut (h : TwoAt w0 b c ga o s t w) (inv : Inv N s) (hN : N ≤ 900000000) (n size : Int) (hp : Is64 size) :
    Calls Try.prog 21 #[.pointer (some ⟨b, 0, none⟩), .int .i64 n, .int .i64 size] w fun e w' => e = .returned (.int .i64 (s.cutAt n size).1) ∧ TwoAt w0 b c ga o (s.cutAt n size).2 t w' := by
  obtain ⟨m, m2, rfl, rfl, hi, hi2, ho, hk, hg⟩ := h
  exact (cut_fs w m s N hi inv (by omega) n size hp.1 hp.2).mono fun e w' ⟨he, hf⟩ => ⟨he, TwoAt.op hi hi2 ho hk hg hf⟩
theorem ta_rename (h : TwoAt w0 b c ga o s t w) (inv : Inv N s) (hN : N ≤ 900000000) (S T : ByteArray) (hS : S.size ≤ 9223372036854775807) (hT : T.size ≤ 9223372036854775807) :
    Calls Try.prog 13 #[.pointer (some ⟨b, 0, none⟩), .string S, .string T] w fun e w' => e = .returned (.int .i64 (s.rename S.data.toList T.data.toList).1) ∧ TwoAt w0 b c ga o (s.rename S.data.toList T.data.toList).2 t w' := by
  obtain ⟨m, m2, rfl, rfl, hi, hi2, ho, hk, hg⟩ := h
  exact (rename_fs w m s N hi inv hN S T hS hT).mono fun e w' ⟨he, hf⟩ => ⟨he, TwoAt.op hi hi2 ho hk hg hf⟩
theorem ta_remove (h : TwoAt w0 b c ga o s t w) (inv : Inv N s) (hN : N ≤ 900000000) (S : ByteArray) (hS : S.size ≤ 9223372036854775807) :
    Calls Try.prog 22 #[.pointer (some ⟨b, 0, none⟩), .string S] w fun e w' => e = .returned (.int .i64 (s.remove S.data.toList).1) ∧ TwoAt w0 b c ga o (s.remove S.data.toList).2 t w' := by
  obtain ⟨m, m2, rfl, rfl, hi, hi2, ho, hk, hg⟩ := h
  exact (remove_fs w m s N hi inv hN S hS).mono fun e w' ⟨he, hf⟩ => ⟨he, TwoAt.op hi hi2 ho hk hg hf⟩
theorem ta_used (h : TwoAt w0 b c ga o s t w) (inv : Inv N s) (hN : N ≤ 900000000) :
    Calls Try.prog 23 #[.pointer (some ⟨b, 0, none⟩)] w fun e w' => e = .returned (.int .i64 (s.used : Nat)) ∧ Keeps NoB w w' := by
  obtain ⟨m, m2, rfl, rfl, hi, hi2, ho, hk, hg⟩ := h
  exact used_fs w m s hi inv.ok inv.files (by have := inv.lim.files; omega)
theorem ta_same (h : TwoAt w0 b c ga o s s w) (inv : Inv N s) (hN : N ≤ 900000000) :
    Calls Try.prog 24 #[.pointer (some ⟨b, 0, none⟩), .pointer (some ⟨c, 0, none⟩)] w fun e w' => e = .returned (.bool true) ∧ Keeps NoB w w' := by
  obtain ⟨m, m2, rfl, rfl, hi, hi2, ho, hk, hg⟩ := h
  refine (same_any w m m2 s s hi hi2 inv.ok inv.ok (by have := inv.lim.files; omega) (by have := inv.lim.files; omega)).mono fun e w' ⟨he, hk⟩ => ⟨?_, hk⟩
  rw [he, FSt.same_refl _ inv.ok]
end
end Go.Proofs.Ytplnneicmdlahaa
