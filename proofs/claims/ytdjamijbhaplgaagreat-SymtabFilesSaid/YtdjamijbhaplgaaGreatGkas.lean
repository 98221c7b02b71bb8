/- The document's file system: a directory behind a change. -/
import Derived.Test.YtdjamijbhaplgaaGreatGkar
namespace Go.Proofs.YtdjamijbhaplgaaGreat
open Go.RowKit Go.Maps Go.Lib

section
variable {P : Program} {w : World} {ops : Array Oper} {rest : List Oper} {o : Oper} {a : Act} {Q : Exit → Act → World → Prop}
/-- append of structs onto an owned row, from any row. -/
theorem appw_any (hgd : o.guard = none) (s x : Operand) (t e : TypeId) (z : Value) (size bytes : Nat) (ho : o.op = .call { callee := .builtin .append, args := #[s, x], argTypes := #[t, t] })
    (ht : P.underlying t = some (.slice e)) (hi : (P.info? e).map (fun i => (i.zero, i.size, i.bytes)) = some (some z, size, bytes)) (hzs : z.cells.size = size) (hsz : 0 < size)
    (v : Value) (n : Nat) (xs : List Value) (hs : a.eval s = v) (hown : OwnW w e size v n xs) (B : Option Addr) (m c : Nat) (news : List Value) (hx : a.eval x = .slice B m c) (hl : news.length = m * size)
    (hnews : ∀ j u, news[j]? = some u → ∃ ad, B = some ad ∧ w.cell? (ad.add j) = some u) (h1 : ∀ u ∈ news, u.oneCell' = true)
    (h63 : n + m ≤ 9223372036854775807) (hbytes : (n + m) * bytes ≤ 140737488355328)
    (h : ∀ A' c' w', OwnW w' e size (.slice A' (n + m) c') (n + m) (xs ++ news) → Keeps (ownB v) w w' → Grew w v (.slice A' (n + m) c') → wpList P ops Q rest (a.put o.dst (.slice A' (n + m) c')) w') : wpList P ops Q (o :: rest) a w := by
  refine wpList_plain hgd fun K hK => ?_
  obtain ⟨A', c', w', hr, h2, h3, h5⟩ := appw_run t e o.type z size bytes ht hi hzs hsz v n xs hown B m c news hl hnews h1 h63 hbytes
  unfold Oper.wp execOp
  simp only [ho, resolve, invoke, builtin, Sem.run_bind, Sem.run_pure, Result.andThen_ok, List.map_toArray, List.map_cons, List.map_nil, hs, hx, hr]
  exact hK _ _ (h A' c' w' h2 h3 h5)
/-- append([]T{}, x...) of structs: a copy. -/
theorem appw_lit (hgd : o.guard = none) (s x : Operand) (t e : TypeId) (z : Value) (size bytes : Nat) (ho : o.op = .call { callee := .builtin .append, args := #[s, x], argTypes := #[t, t] })
    (ht : P.underlying t = some (.slice e)) (hi : (P.info? e).map (fun i => (i.zero, i.size, i.bytes)) = some (some z, size, bytes)) (hzs : z.cells.size = size) (hsz : 0 < size)
    (g : Nat) (hg : g = w.heap.size) (hs : a.eval s = .slice (some ⟨g, 0, none⟩) 0 0) (B : Option Addr) (m c : Nat) (news : List Value) (hx : a.eval x = .slice B m c) (hl : news.length = m * size)
    (hnews : ∀ j u, news[j]? = some u → ∃ ad, B = some ad ∧ w.cell? (ad.add j) = some u) (h1 : ∀ u ∈ news, u.oneCell' = true) (h63 : m ≤ 9223372036854775807) (hbytes : m * bytes ≤ 140737488355328)
    (h : ∀ A' c' w', OwnW w' e size (.slice A' m c') m news → Keeps NoB w w' → Fresh w (.slice A' m c') → wpList P ops Q rest (a.put o.dst (.slice A' m c')) w') : wpList P ops Q (o :: rest) a (w.alloc (.cells #[] e)) := by
  subst hg
  have hka : Keeps NoB w (w.alloc (.cells #[] e)) := (Keeps.refl NoB w).alloc _
  refine appw_any hgd s x t e z size bytes ho ht hi hzs hsz _ 0 [] hs (ownW_lit w e size) B m c news hx hl (fun j u hj => by
    obtain ⟨ad, e1, hc⟩ := hnews j u hj
    exact ⟨ad, e1, hka.cell hc (fun f => f)⟩) h1 (by omega) (by simpa using hbytes) ?_
  intro A' c' w' hO hk hG
  rw [Nat.zero_add] at hO hG ⊢
  rw [List.nil_append] at hO
  exact h A' c' w' hO (hka.fresh (fresh_lit w _ _) hk) ((fresh_lit w 0 0).grew (w1 := w.alloc (.cells #[] e)) hka.size hG)
end
theorem OwnW.news {w : World} {e : TypeId} {size n m c : Nat} {B : Option Addr} {xs : List Value} (h : OwnW w e size (.slice B m c) n xs) : ∀ j u, xs[j]? = some u → ∃ ad, B = some ad ∧ w.cell? (ad.add j) = some u := fun j u hj => by
  rcases h.2 with ⟨_, hn⟩ | ⟨g, cap, cur, e1, hb, hg, r⟩
  · have := h.1
    rw [hn, Nat.zero_mul] at this
    have := List.eq_nil_of_length_eq_zero this
    subst this
    simp at hj
  · cases e1
    exact ⟨_, rfl, World.ownsRow.cells h (g := g) rfl j u hj⟩
theorem sOf_data (a : List UInt8) : (sOf a).data.toList = a := by simp [sOf]
/-- What is known behind the first two statements. -/
structure MvAt (w wx : World) (gm : Nat) (v : Value) (d : Dir) (m : MoveS) : Prop where
  row : EntV wx v d
  fresh : Fresh w v
  keeps : Keeps NoB w wx
  blk : wx.heap[gm]? = some (.cells #[.int .u8 (m.kind : Nat), .string (sOf m.a), .string (sOf m.b), .int .i64 (m.n : Nat)] 98 (0, 0))
theorem MvAt.kept {w wx wy : World} {gm : Nat} {v : Value} {d : Dir} {m : MoveS} (h : MvAt w wx gm v d m) (k : Keeps NoB wx wy) : MvAt w wy gm v d m :=
  ⟨OwnW.keeps h.row k (fun _ _ f => f), h.fresh, h.keeps.then k, k.obj h.blk (fun f => f)⟩
theorem mv_snoc {w wx w4 : World} {gm q4 n k : Nat} {A4 : Option Addr} {v : Value} {d : Dir} {m : MoveS} {b : List UInt8} {o : Obj} (h : MvAt w wx gm v d m) (hO : OwnW w4 157 2 (.slice A4 k q4) k (d.flatMap entCells ++ [.string (sOf b), .int .i64 (n : Nat)])) (hk : k = d.length + 1)
    (hK : Keeps (ownB v) (wx.alloc o) w4) (hG : Grew (wx.alloc o) v (.slice A4 k q4)) : EntV w4 (.slice A4 k q4) (d ++ [(b, n)]) ∧ Fresh w (.slice A4 k q4) ∧ Keeps NoB w w4 := by
  have ha : Keeps NoB w (wx.alloc o) := h.keeps.alloc o
  refine ⟨?_, h.fresh.grew ha.size hG, ha.fresh h.fresh hK⟩
  unfold EntV
  have e1 : (d ++ [(b, n)]).flatMap entCells = d.flatMap entCells ++ [.string (sOf b), .int .i64 (n : Nat)] := by rw [List.flatMap_append]; simp [entCells]
  have e2 : (d ++ [(b, n)]).length = k := by simp [hk]
  rw [e1, e2]
  exact hO
set_option maxHeartbeats 4000000 in
set_option maxRecDepth 100000 in
theorem rmoved_any (w : World) (v : Value) (d : Dir) (m : MoveS) (h : EntV w v d) (hd : (d.map (·.1)).Nodup) (hl : d.length ≤ 1000000) (hkd : m.kind = 99 ∨ m.kind = 100 ∨ m.kind = 114) :
    Calls Tryz.prog 34 #[v, .agg #[.int .u8 (m.kind : Nat), .string (sOf m.a), .string (sOf m.b), .int .i64 (m.n : Nat)]] w fun e w' => ∃ v', e = .returned v' ∧ EntV w' v' (moved d m) ∧ Fresh w v' ∧ Keeps NoB w w' := by
  obtain ⟨A, c, rfl, _, _⟩ := OwnW.slice h
  have hk1 : Keeps NoB w (w.alloc (.cells #[.int .u8 (m.kind : Nat), .string (sOf m.a), .string (sOf m.b), .int .i64 (m.n : Nat)] 98)) := (Keeps.refl NoB w).alloc _
  have HN := Sd.mk (OwnW.news (OwnW.keeps h hk1 (fun _ _ f => f)))
  have HB1 := Sd.mk (heap_alloc_new w (.cells #[.int .u8 (m.kind : Nat), .string (sOf m.a), .string (sOf m.b), .int .i64 (m.n : Nat)] 98))
  have HK1 := Sd.mk hk1
  have HM := Sd.mk (show m.kind = m.kind from rfl)
  clear h hk1
  go_enter Tryz.func34, Tryz.ntmps34
  go_upto_region 2 with (at_builtin; go_must (refine appw_lit rfl _ _ 83 157 _ 2 24 rfl Tryz.underlying83 infoEntry rfl (by decide) (w.heap.size + 1) (by show _ = (w.heap.push _).size; simp) rfl A d.length c (d.flatMap entCells) rfl (entFlat_len d) HN.o (entFlat_one d) (by omega) (by omega) ?_); intro A1 q1 w2 HO HK HF; have H2 : Sd (MvAt w w2 w.heap.size (.slice A1 d.length q1) d m) := ⟨⟨HO, fun k hk => Nat.le_trans HK1.o.size (HF k hk), HK1.o.then HK, HK.obj HB1.o (fun f => f)⟩⟩; clear HO HK HF)
  generalize w.heap.size = gm at *
  clear HN HB1 HK1
  obtain ⟨kind, a, b, n⟩ := m
  dsimp only at *
  have c0 := blk_cell H2.o.blk 0
  have c1 := blk_cell H2.o.blk 1
  have c2 := blk_cell H2.o.blk 2
  have c3 := blk_cell H2.o.blk 3
  dsimp only at c0 c1 c2 c3
  have CA := rat_any w2 _ d H2.o.row (by omega) (sOf a)
  rw [sOf_data] at CA
  rcases hkd with rfl | rfl | rfl
  · have HCA := Sd.mk CA
    clear CA
    go_wp2_with (first | (go_at_call 76; refine HCA.o.mono ?_; rintro e w3 ⟨rfl, hk⟩; have H3 := Sd.mk (H2.o.kept hk); have d0 := blk_cell H3.o.blk 0; have d1 := blk_cell H3.o.blk 1; have d2 := blk_cell H3.o.blk 2; have d3 := blk_cell H3.o.blk 3; dsimp only at d0 d1 d2 d3; clear hk) | (at_builtin; go_must (refine appw_any rfl _ _ 83 157 _ 2 24 rfl Tryz.underlying83 infoEntry rfl (by decide) (.slice A1 d.length q1) d.length (d.flatMap entCells) rfl (OwnW.keeps H3.o.row ((Keeps.refl NoB _).alloc _) (fun _ _ f => f)) (some ⟨_, 0, none⟩) 1 1 [.string (sOf a), .int .i64 (n : Nat)] rfl rfl (fun j u hj => ⟨_, rfl, cells_new _ _ _ j u hj⟩) (by intro u hu; simp at hu; rcases hu with rfl | rfl <;> rfl) (by omega) (by omega) ?_); intro A9 q9 w9 HO HK HG; have HF := Sd.mk (mv_snoc H3.o HO (by omega) HK HG); clear HO HK HG))
    go_ret
    exact ⟨_, rfl, HF.o⟩
  · cases hat : atN d a with
    | none =>
      rw [atI_none hat] at CA
      have HCA := Sd.mk CA
      have HD : Sd (moved d ⟨100, a, b, n⟩ = d) := ⟨(atN_none hat).2⟩
      clear CA hat
      go_wp2_with (go_at_call 76; refine HCA.o.mono ?_; rintro e w3 ⟨rfl, hk⟩; have H3 := Sd.mk (H2.o.kept hk); have d0 := blk_cell H3.o.blk 0; have d1 := blk_cell H3.o.blk 1; have d2 := blk_cell H3.o.blk 2; have d3 := blk_cell H3.o.blk 3; dsimp only at d0 d1 d2 d3; clear hk)
      go_ret
      exact ⟨_, rfl, by rw [HD.o]; exact H3.o.row, H3.o.fresh, H3.o.keeps⟩
    | some i =>
      rw [atI_some hat] at CA
      have HCA := Sd.mk CA
      have HD : Sd (moved d ⟨100, a, b, n⟩ = d.take i ++ d.drop (i + 1)) := ⟨atN_less hat hd⟩
      obtain ⟨hi, -, -⟩ := atN_some hat
      have hi0 : (0 : Int) ≤ (i : Int) := by omega
      clear CA hat
      go_wp2_with (first | (go_at_call 76; refine HCA.o.mono ?_; rintro e w3 ⟨rfl, hk⟩; have H3 := Sd.mk (H2.o.kept hk); have d0 := blk_cell H3.o.blk 0; have d1 := blk_cell H3.o.blk 1; have d2 := blk_cell H3.o.blk 2; have d3 := blk_cell H3.o.blk 3; dsimp only at d0 d1 d2 d3; clear hk) | (go_at_call 77; refine (rwithout_any _ _ d H3.o.row (by omega) i hi).mono ?_; rintro e w4 ⟨v4, rfl, hr, hf, hk⟩; have HR := Sd.mk hr; have HF : Sd (Fresh w v4) := ⟨fun k hk => Nat.le_trans H3.o.keeps.size (hf k hk)⟩; have HK := Sd.mk (H3.o.keeps.then hk); clear hr hf hk))
      go_ret
      exact ⟨_, rfl, by rw [HD.o]; exact HR.o, HF.o, HK.o⟩
  · cases hat : atN d a with
    | none =>
      rw [atI_none hat] at CA
      have HCA := Sd.mk CA
      have HD : Sd (moved d ⟨114, a, b, n⟩ = d) := ⟨by
        have := (atN_none hat).1
        unfold moved Dir.at_
        simp only [this]
        rfl⟩
      clear CA hat
      go_wp2_with (go_at_call 76; refine HCA.o.mono ?_; rintro e w3 ⟨rfl, hk⟩; have H3 := Sd.mk (H2.o.kept hk); have d0 := blk_cell H3.o.blk 0; have d1 := blk_cell H3.o.blk 1; have d2 := blk_cell H3.o.blk 2; have d3 := blk_cell H3.o.blk 3; dsimp only at d0 d1 d2 d3; clear hk)
      go_ret
      exact ⟨_, rfl, by rw [HD.o]; exact H3.o.row, H3.o.fresh, H3.o.keeps⟩
    | some i =>
      rw [atI_some hat] at CA
      have HCA := Sd.mk CA
      obtain ⟨hi, hi1, hi2⟩ := atN_some hat
      have hi0 : ¬ (i : Int) < 0 := by omega
      have hi3 : (0 : Int) ≤ (i : Int) := by omega
      have hi4 : (i : Int) < (d.length : Int) := by omega
      by_cases hab : a = b
      · subst hab
        have HD : Sd (moved d ⟨114, a, a, n⟩ = d) := ⟨by
          unfold moved Dir.at_
          simp [hi2]⟩
        clear CA hat hi1 hi2
        go_wp2_with (go_at_call 76; refine HCA.o.mono ?_; rintro e w3 ⟨rfl, hk⟩; have H3 := Sd.mk (H2.o.kept hk); have d0 := blk_cell H3.o.blk 0; have d1 := blk_cell H3.o.blk 1; have d2 := blk_cell H3.o.blk 2; have d3 := blk_cell H3.o.blk 3; dsimp only at d0 d1 d2 d3; clear hk)
        go_ret
        exact ⟨_, rfl, by rw [HD.o]; exact H3.o.row, H3.o.fresh, H3.o.keeps⟩
      · have hb : ((sOf a).toList == (sOf b).toList) = false := by rw [sOf_toL, sOf_toL]; simpa using hab
        have hle : d.less a = d.take i ++ d.drop (i + 1) := atN_less hat hd
        have HD : Sd (moved d ⟨114, a, b, n⟩ = Dir.less (d.take i ++ d.drop (i + 1)) b ++ [(b, (d[i]).2)]) := ⟨by
          unfold moved Dir.at_
          rw [← hle]
          simp [hi2, hab]⟩
        have hd1 : ((d.take i ++ d.drop (i + 1)).map (·.1)).Nodup := by
          rw [← hle]
          exact hd.sublist ((less_sub d a).map _)
        have hl1 : (d.take i ++ d.drop (i + 1)).length ≤ 1000000 := by simp; omega
        clear CA hat hi1 hi2 hle hab
        obtain ⟨d1, hd1e⟩ : ∃ d1, d1 = d.take i ++ d.drop (i + 1) := ⟨_, rfl⟩
        rw [← hd1e] at hd1 hl1 HD
        have HD1 := Sd.mk hd1e
        clear hd1e
        go_upto_region 14 with (first | (go_at_call 76; refine HCA.o.mono ?_; rintro e w3 ⟨rfl, hk⟩; have H3 := Sd.mk (H2.o.kept hk); obtain ⟨g3, e3, hg3, h30, h31⟩ := EntV.get H3.o.row hi; cases hg3; have p0 := blk_cell H3.o.blk 0; have p1 := blk_cell H3.o.blk 1; have p2 := blk_cell H3.o.blk 2; dsimp only at p0 p1 p2; clear hk) | (go_at_call 77; refine (rwithout_any _ _ d H3.o.row (by omega) i hi).mono ?_; rw [← HD1.o]; rintro e w4 ⟨v4, rfl, hr, hf, hk⟩; have H4 : Sd (MvAt w w4 gm v4 d1 ⟨114, a, b, n⟩) := ⟨⟨hr, fun k hk => Nat.le_trans H3.o.keeps.size (hf k hk), H3.o.keeps.then hk, hk.obj H3.o.blk (fun f => f)⟩⟩; clear hr hf hk))
        obtain ⟨A4, q4, hv4, -, -⟩ := OwnW.slice H4.o.row
        subst hv4
        have CB := rat_any w4 _ d1 H4.o.row (by omega) (sOf b)
        rw [sOf_data] at CB
        have b0 := blk_cell H4.o.blk 0
        have b1 := blk_cell H4.o.blk 1
        have b2 := blk_cell H4.o.blk 2
        dsimp only at b0 b1 b2
        clear c0 c1 c2 c3 p0 p1 p2 h30 h31 H2 H3 HCA HD1 hb
        cases hbt : atN d1 b with
        | none =>
          rw [atI_none hbt] at CB
          have HCB := Sd.mk CB
          rw [(atN_none hbt).2] at HD
          clear CB hbt
          go_wp2_with (first | (go_at_call 76; refine HCB.o.mono ?_; rintro e w5 ⟨rfl, hk⟩; have H5 := Sd.mk (H4.o.kept hk); have r2 := blk_cell H5.o.blk 2; dsimp only at r2; clear hk) | (at_builtin; go_must (refine appw_any rfl _ _ 83 157 _ 2 24 rfl Tryz.underlying83 infoEntry rfl (by decide) (.slice A4 d1.length q4) d1.length (d1.flatMap entCells) rfl (OwnW.keeps H5.o.row ((Keeps.refl NoB _).alloc _) (fun _ _ f => f)) (some ⟨_, 0, none⟩) 1 1 [.string (sOf b), .int .i64 (d[i].2 : Nat)] rfl rfl (fun j u hj => ⟨_, rfl, cells_new _ _ _ j u hj⟩) (by intro u hu; simp at hu; rcases hu with rfl | rfl <;> rfl) (by omega) (by omega) ?_); intro A9 q9 w9 HO HK HG; have HF := Sd.mk (mv_snoc H5.o HO (by omega) HK HG); clear HO HK HG))
          go_ret
          exact ⟨_, rfl, by rw [HD.o]; exact HF.o⟩
        | some k =>
          rw [atI_some hbt] at CB
          have HCB := Sd.mk CB
          rw [atN_less hbt hd1] at HD
          obtain ⟨hk1, -, -⟩ := atN_some hbt
          have hk0 : (0 : Int) ≤ (k : Int) := by omega
          obtain ⟨d2, hd2⟩ : ∃ d2, d2 = d1.take k ++ d1.drop (k + 1) := ⟨_, rfl⟩
          have hl2 : d2.length ≤ 1000000 := by rw [hd2]; simp; omega
          rw [← hd2] at HD
          have HD2 := Sd.mk hd2
          clear CB hbt hd2
          go_wp2_with (first | (go_at_call 76; refine HCB.o.mono ?_; rintro e w5 ⟨rfl, hk⟩; have H5 := Sd.mk (H4.o.kept hk); clear hk) | (go_at_call 77; refine (rwithout_any _ _ d1 H5.o.row (by omega) k hk1).mono ?_; rw [← HD2.o]; rintro e w6 ⟨v6, rfl, hr, hf, hk⟩; obtain ⟨A6, q6, hv6, -, -⟩ := OwnW.slice hr; subst hv6; have H6 : Sd (MvAt w w6 gm (.slice A6 d2.length q6) d2 ⟨114, a, b, n⟩) := ⟨⟨hr, fun k hk => Nat.le_trans H5.o.keeps.size (hf k hk), H5.o.keeps.then hk, hk.obj H5.o.blk (fun f => f)⟩⟩; have r2 := blk_cell H6.o.blk 2; dsimp only at r2; clear hr hf hk) | (at_builtin; go_must (refine appw_any rfl _ _ 83 157 _ 2 24 rfl Tryz.underlying83 infoEntry rfl (by decide) (.slice A6 d2.length q6) d2.length (d2.flatMap entCells) rfl (OwnW.keeps H6.o.row ((Keeps.refl NoB _).alloc _) (fun _ _ f => f)) (some ⟨_, 0, none⟩) 1 1 [.string (sOf b), .int .i64 (d[i].2 : Nat)] rfl rfl (fun j u hj => ⟨_, rfl, cells_new _ _ _ j u hj⟩) (by intro u hu; simp at hu; rcases hu with rfl | rfl <;> rfl) (by omega) (by omega) ?_); intro A9 q9 w9 HO HK HG; have HF := Sd.mk (mv_snoc H6.o HO (by omega) HK HG); clear HO HK HG))
          go_ret
          exact ⟨_, rfl, by rw [HD.o]; exact HF.o⟩
end Go.Proofs.YtdjamijbhaplgaaGreat
namespace Go.Proofs.YtdjamijbhaplgaaGreat
open Go.RowKit Go.Maps Go.Lib

theorem any_take_none {d : Dir} {n : Int} (h : ∀ j (hj : j < d.length), ((d[j]).2 : Int) ≠ n) : d.any (fun e => ((e.2 : Nat) : Int) == n) = false := by
  rw [List.any_eq_false]
  intro e he
  obtain ⟨j, hj, rfl⟩ := List.getElem_of_mem he
  simpa using h j hj
/-- The file of a number that has a name. -/
theorem IsRS.fileAt {w : World} {m : RMem} {s : FSt} (h : IsRS w m s) (ok : FsOk s) {n : Int} (ht : s.D.any (fun e => ((e.2 : Nat) : Int) == n) = true) : ∃ (k : Nat) (hk : k < m.fs.length), n = (k : Int) + 1 ∧ s.F.getD k noFile = s.file n.toNat := by
  obtain ⟨e, he, hn⟩ := List.any_eq_true.1 ht
  have hn' : (e.2 : Int) = n := by simpa using hn
  have := ok.dirD.low e he
  refine ⟨e.2 - 1, by rw [h.len]; omega, by omega, ?_⟩
  unfold FSt.file
  rw [show n.toNat - 1 = e.2 - 1 by omega]
set_option maxHeartbeats 1000000 in
set_option maxRecDepth 100000 in
theorem rfile_none (w : World) (m : RMem) (s : FSt) (h : IsRS w m s) (hl : s.D.length ≤ 1000000) (n : Int) (hn : s.D.any (fun e => ((e.2 : Nat) : Int) == n) = false) :
    Calls Tryz.prog 81 #[.pointer (some ⟨m.b, 0, none⟩), .int .i64 n] w fun e w' => e = .returned (.pointer none) ∧ Keeps NoB w w' := by
  obtain ⟨A, c, hv, _, _⟩ := OwnW.slice h.names
  have H := Sd.mk h
  have c1 := h.c.2.1
  rw [hv] at c1
  have HV := Sd.mk hv
  have HN := Sd.mk hn
  clear h hn hv
  go_enter Tryz.func81, Tryz.ntmps81
  go_wp2_with fail
  go_loopg [5] s.D.length (fun gk i wr => ∃ (k : Nat), gk + k = s.D.length ∧ i = .int .i64 k ∧ Sd (Keeps NoB w wr))
  case atStart => exact ⟨0, by omega, rfl, ⟨Keeps.refl _ _⟩⟩
  case round =>
    obtain ⟨k, hk, rfl, HK⟩ := hrel
    have d1 : wr.cell? ⟨m.b, 1, none⟩ = some (.slice A s.D.length c) := HK.o.cell c1 (fun f => f)
    by_cases hlt : k < s.D.length
    · have hq1 : (k : Int) < (s.D.length : Int) := by omega
      have hq0 : (0 : Int) ≤ (k : Int) := by omega
      have hrow := OwnW.keeps H.o.names HK.o (fun _ _ f => f)
      rw [HV.o] at hrow
      obtain ⟨g, cc, e, c0, c2⟩ := EntV.get hrow hlt
      cases e
      have hb : (((s.D[k]).2 : Int) == n) = false := by
        have := List.any_eq_false.1 HN.o _ (List.getElem_mem hlt)
        simpa using this
      generalize s.D[k] = ent at *
      clear hrow
      go_wp2
      go_roundg (gk - 1)
      case measure => omega
      case rel => exact ⟨k + 1, by omega, by go_num, HK⟩
    · have hq1 : ¬ (k : Int) < (s.D.length : Int) := by omega
      go_wp2
      go_ret
      exact ⟨rfl, HK.o⟩
set_option maxHeartbeats 1000000 in
set_option maxRecDepth 100000 in
theorem rfile_some (w : World) (m : RMem) (s : FSt) (h : IsRS w m s) (hl : s.D.length ≤ 1000000) (j : Nat) (hj : j < m.fs.length) (hj2 : j ≤ 1000000000) (hn : s.D.any (fun e => ((e.2 : Nat) : Int) == (j : Int) + 1) = true) :
    Calls Tryz.prog 81 #[.pointer (some ⟨m.b, 0, none⟩), .int .i64 ((j : Int) + 1)] w fun e w' => e = .returned (.pointer (some ⟨(m.fs[j]).fb, 0, none⟩)) ∧ Keeps NoB w w' := by
  obtain ⟨A, c, hv, _, _⟩ := OwnW.slice h.names
  obtain ⟨gf, cf, hfv, hf0⟩ := PtrV.get h.ptrs (j := j) (by simpa using hj)
  have hfl : (m.fs.map (·.fb)).length = m.fs.length := by simp
  have H := Sd.mk h
  have c1 := h.c.2.1
  have c9 := h.c.1
  rw [hv] at c1
  rw [hfv, hfl] at c9
  have hf1 : w.cell? ⟨gf, j, none⟩ = some (.pointer (some ⟨(m.fs[j]).fb, 0, none⟩)) := by simpa using hf0
  have HV := Sd.mk hv
  have HN := Sd.mk hn
  have hjl : (j : Int) < (m.fs.length : Int) := by omega
  have hj0 : (0 : Int) ≤ (j : Int) := by omega
  clear h hn hv hf0 hfv hfl
  go_enter Tryz.func81, Tryz.ntmps81
  go_wp2_with fail
  go_loopg [5] s.D.length (fun gk i wr => ∃ (k : Nat), gk + k = s.D.length ∧ i = .int .i64 k ∧ Sd (∀ i (hi : i < k) (hd : i < s.D.length), ((s.D[i]).2 : Int) ≠ (j : Int) + 1) ∧ Sd (Keeps NoB w wr))
  case atStart => exact ⟨0, by omega, rfl, ⟨fun i hi => by omega⟩, ⟨Keeps.refl _ _⟩⟩
  case round =>
    obtain ⟨k, hk, rfl, HI, HK⟩ := hrel
    have d1 : wr.cell? ⟨m.b, 1, none⟩ = some (.slice A s.D.length c) := HK.o.cell c1 (fun f => f)
    have d9 : wr.cell? ⟨m.b, 0, none⟩ = some (.slice (some ⟨gf, 0, none⟩) m.fs.length cf) := HK.o.cell c9 (fun f => f)
    have d8 : wr.cell? ⟨gf, j, none⟩ = some (.pointer (some ⟨(m.fs[j]).fb, 0, none⟩)) := HK.o.cell hf1 (fun f => f)
    by_cases hlt : k < s.D.length
    · have hq1 : (k : Int) < (s.D.length : Int) := by omega
      have hq0 : (0 : Int) ≤ (k : Int) := by omega
      have hrow := OwnW.keeps H.o.names HK.o (fun _ _ f => f)
      rw [HV.o] at hrow
      obtain ⟨g, cc, e, c0, c2⟩ := EntV.get hrow hlt
      cases e
      by_cases he : ((s.D[k]).2 : Int) = (j : Int) + 1
      · have hb : (((s.D[k]).2 : Int) == (j : Int) + 1) = true := by simp [he]
        clear he
        generalize s.D[k] = ent at *
        clear hrow
        go_wp2
        go_ret
        exact ⟨rfl, HK.o⟩
      · have hb : (((s.D[k]).2 : Int) == (j : Int) + 1) = false := by simpa using he
        have HI2 : Sd (∀ i (hi : i < k + 1) (hd : i < s.D.length), ((s.D[i]).2 : Int) ≠ (j : Int) + 1) := ⟨fun i hi hd => by
          by_cases hik : i < k
          · exact HI.o i hik hd
          · have : i = k := by omega
            subst this
            exact he⟩
        clear he
        generalize s.D[k] = ent at *
        clear hrow
        go_wp2
        go_roundg (gk - 1)
        case measure => omega
        case rel => exact ⟨k + 1, by omega, by go_num, HI2, HK⟩
    · have := any_take_none (fun i hi => HI.o i (by omega) hi)
      rw [HN.o] at this
      cases this
set_option maxHeartbeats 1000000 in
/-- An operation is counted. -/
theorem rcounts_any (w : World) (b : Nat) (c0 c1 c2 c3 c4 c8 : Value) (ops : Nat) (left : Int) (off : Bool) (h : w.heap[b]? = some (.cells #[c0, c1, c2, c3, c4, .int .i64 (ops : Nat), .int .i64 left, .bool off, c8] 86 (0, 0)))
    (ho : ops ≤ 4611686018427387904) (hl : -1 ≤ left ∧ left ≤ 9223372036854775807) :
    Calls Tryz.prog 57 #[.pointer (some ⟨b, 0, none⟩)] w fun e w' => e = .returned (.int .i64 0) ∧
      w'.heap[b]? = some (.cells #[c0, c1, c2, c3, c4, .int .i64 ((ops + 1 : Nat) : Int), .int .i64 (if 0 < left then left - 1 else left), .bool (if 0 < left then decide (left = 1) else off), c8] 86 (0, 0)) ∧ Keeps (OneB b) w w' := by
  have h6 : w.cell? ⟨b, 5, none⟩ = some (.int .i64 (ops : Nat)) := blk_cell h 5
  have h7 : w.cell? ⟨b, 6, none⟩ = some (.int .i64 left) := blk_cell h 6
  have h8 : w.cell? ⟨b, 7, none⟩ = some (.bool off) := blk_cell h 7
  have f6 := blk_frozen h 5
  have f7 := blk_frozen h 6
  have f8 := blk_frozen h 7
  have H := Sd.mk h
  obtain ⟨hl1, hl2⟩ := hl
  clear h
  by_cases hp : 0 < left
  · rw [if_pos hp, if_pos hp]
    go_enter Tryz.func57, Tryz.ntmps57
    go_wp2
    go_ret
    refine ⟨rfl, ?_, ?_⟩
    · refine (blk_set (blk_set (blk_set H.o 5 _) 6 _) 7 _).trans ?_
      have e1 : (left - 1 == 0) = decide (left = 1) := by
        by_cases hz : left = 1
        · subst hz; rfl
        · rw [decide_eq_false hz]; simp; omega
      rw [e1]
      rfl
    · exact (((Keeps.refl (OneB b) w).setCell ⟨b, 5, none⟩ _ (fun _ => rfl)).setCell ⟨b, 6, none⟩ _ (fun _ => rfl)).setCell ⟨b, 7, none⟩ _ (fun _ => rfl)
  · rw [if_neg hp, if_neg hp]
    go_enter Tryz.func57, Tryz.ntmps57
    go_wp2
    go_ret
    refine ⟨rfl, (blk_set H.o 5 _).trans ?_, (Keeps.refl (OneB b) w).setCell ⟨b, 5, none⟩ _ (fun _ => rfl)⟩
    rfl
end Go.Proofs.YtdjamijbhaplgaaGreat
namespace Go.Proofs.YtdjamijbhaplgaaGreat
open Go.RowKit Go.Maps Go.Lib

theorem there_any {s : FSt} {n : Int} (h : s.there n = 0) : s.off = false ∧ s.D.any (fun e => ((e.2 : Nat) : Int) == n) = true := by
  obtain ⟨h1, e, he, hn⟩ := there_mem h
  exact ⟨h1, List.any_eq_true.2 ⟨e, he, by simpa using hn⟩⟩
set_option maxHeartbeats 1000000 in
set_option maxRecDepth 100000 in
theorem rthere_no (w : World) (m : RMem) (s : FSt) (h : IsRS w m s) (hl : s.D.length ≤ 1000000) (n : Int) (ht : s.there n ≠ 0) :
    Calls Tryz.prog 39 #[.pointer (some ⟨m.b, 0, none⟩), .int .i64 n] w fun e w' => e = .returned (.tuple #[.pointer none, .int .i64 (s.there n)]) ∧ Keeps NoB w w' := by
  have c7 := h.c.2.2.2.2.2.2.2.1
  cases hoff : s.off with
  | true =>
    have HT : Sd (s.there n = 21) := ⟨by unfold FSt.there; rw [hoff]; rfl⟩
    rw [hoff] at c7
    clear hoff ht
    go_enter Tryz.func39, Tryz.ntmps39
    go_wp2
    go_ret2
    exact ⟨by rw [HT.o]; rfl, Keeps.refl _ _⟩
  | false =>
    have hany : s.D.any (fun e => ((e.2 : Nat) : Int) == n) = false := by
      cases ha : s.D.any (fun e => ((e.2 : Nat) : Int) == n) with
      | false => rfl
      | true => exact absurd (by unfold FSt.there; rw [hoff, ha]; rfl) ht
    have HT : Sd (s.there n = 7) := ⟨by unfold FSt.there; rw [hoff, hany]; rfl⟩
    have HF := Sd.mk (rfile_none w m s h hl n hany)
    rw [hoff] at c7
    clear hoff ht hany
    go_enter Tryz.func39, Tryz.ntmps39
    go_wp2_with (go_at_call 81; refine HF.o.mono ?_; rintro e w2 ⟨rfl, hk⟩; have HK := Sd.mk hk; clear hk)
    go_ret2
    exact ⟨by rw [HT.o]; rfl, HK.o⟩
set_option maxHeartbeats 1000000 in
set_option maxRecDepth 100000 in
theorem rthere_ok (w : World) (m : RMem) (s : FSt) (h : IsRS w m s) (hl : s.D.length ≤ 1000000) (j : Nat) (hj : j < m.fs.length) (hj2 : j ≤ 1000000000) (ht : s.there ((j : Int) + 1) = 0) :
    Calls Tryz.prog 39 #[.pointer (some ⟨m.b, 0, none⟩), .int .i64 ((j : Int) + 1)] w fun e w' => e = .returned (.tuple #[.pointer (some ⟨(m.fs[j]).fb, 0, none⟩), .int .i64 0]) ∧ Keeps NoB w w' := by
  have c7 := h.c.2.2.2.2.2.2.2.1
  obtain ⟨hoff, hany⟩ := there_any ht
  have HF := Sd.mk (rfile_some w m s h hl j hj hj2 hany)
  rw [hoff] at c7
  clear hoff ht hany
  go_enter Tryz.func39, Tryz.ntmps39
  go_wp2_with (go_at_call 81; refine HF.o.mono ?_; rintro e w2 ⟨rfl, hk⟩; have HK := Sd.mk hk; clear hk)
  go_ret2
  exact ⟨rfl, HK.o⟩
def usedTo (s : FSt) (k : Nat) : Nat := ((s.D.take k).map fun e => (s.file e.2).data.length).sum
theorem usedTo_succ (s : FSt) (k : Nat) (hk : k < s.D.length) : usedTo s (k + 1) = usedTo s k + (s.file (s.D[k]).2).data.length := by
  unfold usedTo
  rw [List.take_succ_eq_append_getElem hk, List.map_append, List.sum_append]; simp
theorem usedTo_all (s : FSt) (k : Nat) (hk : s.D.length ≤ k) : usedTo s k = s.used := by
  unfold usedTo
  rw [List.take_of_length_le hk]; rfl
theorem usedTo_le (s : FSt) (fo : FilesOk s) (k : Nat) : usedTo s k ≤ k * 67108864 := by
  induction k with
  | zero => simp [usedTo]
  | succ k ih =>
    by_cases hk : k < s.D.length
    · rw [usedTo_succ s k hk]
      have := fo.small (s.D[k]).2
      omega
    · rw [usedTo_all s _ (by omega)]
      rw [usedTo_all s k (by omega)] at ih
      exact Nat.le_trans ih (Nat.mul_le_mul_right _ (Nat.le_succ k))
set_option maxHeartbeats 1000000 in
set_option maxRecDepth 100000 in
theorem rused_fs (w : World) (m : RMem) (s : FSt) (h : IsRS w m s) (ok : FsOk s) (fo : FilesOk s) (hN : s.F.length ≤ 1000000000) :
    Calls Tryz.prog 82 #[.pointer (some ⟨m.b, 0, none⟩)] w fun e w' => e = .returned (.int .i64 (s.used : Nat)) ∧ Keeps NoB w w' := by
  obtain ⟨A, c, hv, _, _⟩ := OwnW.slice h.names
  obtain ⟨Af, cf, hfv, _, _⟩ := OwnW.slice h.ptrs
  have hfl : (m.fs.map (·.fb)).length = m.fs.length := by simp
  have H := Sd.mk h
  have c1 := h.c.2.1
  have c9 := h.c.1
  have hlen := ok.len
  rw [hv] at c1
  rw [hfv, hfl] at c9
  have HV := Sd.mk hv
  have HFV := Sd.mk hfv
  have HFO := Sd.mk fo
  have HOK := Sd.mk ok
  clear h hv fo ok hfv hfl
  go_enter Tryz.func82, Tryz.ntmps82
  go_wp2_with fail
  go_loopg [3, 4] s.D.length (fun gk acc i wr => ∃ (k : Nat), gk + k = s.D.length ∧ acc = .int .i64 (usedTo s k : Nat) ∧ i = .int .i64 k ∧ Sd (Keeps NoB w wr))
  case atStart => exact ⟨0, by omega, rfl, rfl, ⟨Keeps.refl _ _⟩⟩
  case round =>
    obtain ⟨k, hk, rfl, rfl, HK⟩ := hrel
    have d1 : wr.cell? ⟨m.b, 1, none⟩ = some (.slice A s.D.length c) := HK.o.cell c1 (fun f => f)
    have d9 : wr.cell? ⟨m.b, 0, none⟩ = some (.slice Af m.fs.length cf) := HK.o.cell c9 (fun f => f)
    by_cases hlt : k < s.D.length
    · have hq1 : (k : Int) < (s.D.length : Int) := by omega
      have hq0 : (0 : Int) ≤ (k : Int) := by omega
      have HR := H.o.kept HK.o
      have hrow := HR.names
      rw [HV.o] at hrow
      obtain ⟨g, cc, e, p0, p1⟩ := EntV.get hrow hlt
      cases e
      have hlow := HOK.o.dirD.low _ (List.getElem_mem hlt)
      obtain ⟨j, hj⟩ : ∃ j, (s.D[k]).2 = j + 1 := ⟨(s.D[k]).2 - 1, by omega⟩
      have hjl : j < m.fs.length := by rw [HR.len]; omega
      have HST := Sd.mk (usedTo_succ s k hlt)
      rw [hj] at p1 HST
      have hptr := HR.ptrs
      rw [HFV.o] at hptr
      obtain ⟨gf, cf', e, q0⟩ := PtrV.get hptr (j := j) (by simpa using hjl)
      cases e
      have q1 : wr.cell? ⟨gf, j, none⟩ = some (.pointer (some ⟨(m.fs[j]).fb, 0, none⟩)) := by simpa using q0
      have hfile := HR.file j hjl
      have q3 := hfile.c.2.2.2
      have e4 : s.F.getD j noFile = s.file (j + 1) := rfl
      rw [e4] at q3
      have hsz := sOf_size (s.file (j + 1)).data
      have hsm := HFO.o.small (j + 1)
      have hub := usedTo_le s HFO.o k
      have p2 : wr.cell? ⟨g, k * 2 + 1, none⟩ = some (.int .i64 ((j : Int) + 1)) := p1
      have hj0 : (0 : Int) ≤ (j : Int) := by omega
      have hj1 : (j : Int) < (m.fs.length : Int) := by omega
      have hj9 : j ≤ 1000000000 := by rw [HR.len] at hjl; omega
      clear hrow hptr hfile HR q0 p1 hlow hj e4
      generalize (m.fs[j]).fb = fb at *
      generalize (s.file (j + 1)).data = dt at *
      generalize usedTo s k = acc at *
      go_wp2_with fail
      go_region
      go_wp2
      go_roundg (gk - 1)
      case measure => omega
      case rel => exact ⟨k + 1, by omega, by rw [HST.o]; go_num, by go_num, ⟨HK.o.drew⟩⟩
    · have hq1 : ¬ (k : Int) < (s.D.length : Int) := by omega
      have HU := Sd.mk (usedTo_all s k (by omega))
      go_wp2
      go_ret
      exact ⟨by rw [← HU.o]; rfl, HK.o⟩
set_option maxHeartbeats 1000000 in
set_option maxRecDepth 100000 in
theorem frnew_any (w : World) (cap : Int) (h0 : 0 ≤ cap) (h1 : cap ≤ 67108864) : Calls Tryz.prog 6 #[.int .i64 cap] w fun e w' => ∃ m : RMem, e = .returned (.tuple #[.pointer (some ⟨m.b, 0, none⟩), .int .i64 0]) ∧ IsRS w' m (FSt.fresh cap) ∧ (∀ k, m.O k → w.heap.size ≤ k) ∧ Keeps NoB w w' := by
  have e0 : ¬ cap < 0 := by omega
  have e1 : ¬ 67108864 < cap := by omega
  have HB := Sd.mk (heap_alloc_new w (.cells #[.slice none 0 0, .slice none 0 0, .slice none 0 0, .slice none 0 0, .int .i64 cap, .int .i64 0, .int .i64 (-1), .bool false, .int .i64 0] 86))
  have HK : Sd (Keeps NoB w (w.alloc (.cells #[.slice none 0 0, .slice none 0 0, .slice none 0 0, .slice none 0 0, .int .i64 cap, .int .i64 0, .int .i64 (-1), .bool false, .int .i64 0] 86))) := ⟨(Keeps.refl NoB w).alloc _⟩
  go_enter Tryz.func6, Tryz.ntmps6
  go_wp2
  go_ret2
  refine ⟨⟨w.heap.size, [], .slice none 0 0, .slice none 0 0, .slice none 0 0, .slice none 0 0⟩, rfl, ⟨HB.o, rfl, ptrV_nil _, fun i hi => by simp at hi, entV_nil _, entV_nil _, rmovV_nil _, fun i j hi => by simp at hi, fun k hk => by simp [Value.ownBlock] at hk⟩, fun k hk => ?_, HK.o⟩
  rcases hk with h | h | h | h | h | ⟨f, h, _⟩
  · exact Nat.le_of_eq h.symm
  · simp [Value.ownBlock] at h
  · simp [Value.ownBlock] at h
  · simp [Value.ownBlock] at h
  · simp [Value.ownBlock] at h
  · simp at h
theorem frnew_bad (w : World) (cap : Int) (h : cap < 0 ∨ 67108864 < cap) : Calls Tryz.prog 6 #[.int .i64 cap] w fun e w' => e = .returned (.tuple #[.pointer none, .int .i64 2]) ∧ Keeps NoB w w' := by
  rcases h with h | h
  · go_enter Tryz.func6, Tryz.ntmps6
    go_wp2
    go_ret2
    exact ⟨rfl, Keeps.refl _ _⟩
  · have h0 : ¬ cap < 0 := by omega
    go_enter Tryz.func6, Tryz.ntmps6
    go_wp2
    go_ret2
    exact ⟨rfl, Keeps.refl _ _⟩
end Go.Proofs.YtdjamijbhaplgaaGreat
