/- The document's file system: a directory behind a change. -/
import Derived.Test.YtlhhcoijkjcneaaGreatGd
namespace Go.Proofs.YtlhhcoijkjcneaaGreat
open Go.RowKit Go.Maps Go.Lib

section
variable {P : Program} {w : World} {ops : Array Oper} {rest : List Oper} {o : Oper} {a : Act} {Q : Exit → Act → World → Prop}
/-- append of structs onto an owned row, from any row. -/
theorem appw_any (hgd : o.guard = none) (s x : Operand) (t e : TypeId) (z : Value) (size bytes : Nat) (ho : o.op = .call { callee := .builtin .append, args := #[s, x], argTypes := #[t, t] })
    (ht : P.underlying t = some (.slice e)) (hi : (P.info? e).map (fun i => (i.zero, i.size, i.bytes)) = some (some z, size, bytes)) (hzs : z.cells.size = size) (hsz : 0 < size)
    (v : Value) (n : Nat) (xs : List Value) (hs : a.eval s = v) (hown : OwnW w e size v n xs) (B : Option Addr) (m c : Nat) (news : List Value) (hx : a.eval x = .slice B m c) (hl : news.length = m * size)
    (hnews : ∀ j u, news[j]? = some u → ∃ ad, B = some ad ∧ w.cell? (ad.add j) = some u) (h1 : ∀ u ∈ news, u.oneCell' = true)
    (h63 : n + m ≤ 9223372036854775807) (hbytes : (n + m) * bytes ≤ 140737488355328)
    (h : ∀ A' c' w', OwnW w' e size (.slice A' (n + m) c') (n + m) (xs ++ news) → Keeps (ownB v) w w' → Grew w v (.slice A' (n + m) c') → wpList P ops Q rest (a.put o.dst (.slice A' (n + m) c')) w') : wpList P ops Q (o :: rest) a w := by
  refine wpList_plain hgd fun K hK => ?_
  obtain ⟨A', c', w', hr, h2, h3, h5⟩ := appw_run t e o.type z size bytes ht hi hzs hsz v n xs hown B m c news hl hnews h1 h63 hbytes
  unfold Oper.wp execOp
  simp only [ho, resolve, invoke, builtin, Sem.run_bind, Sem.run_pure, Result.andThen_ok, List.map_toArray, List.map_cons, List.map_nil, hs, hx, hr]
  exact hK _ _ (h A' c' w' h2 h3 h5)
/-- append([]T{}, x...) of structs: a copy. -/
theorem appw_lit (hgd : o.guard = none) (s x : Operand) (t e : TypeId) (z : Value) (size bytes : Nat) (ho : o.op = .call { callee := .builtin .append, args := #[s, x], argTypes := #[t, t] })
    (ht : P.underlying t = some (.slice e)) (hi : (P.info? e).map (fun i => (i.zero, i.size, i.bytes)) = some (some z, size, bytes)) (hzs : z.cells.size = size) (hsz : 0 < size)
    (g : Nat) (hg : g = w.heap.size) (hs : a.eval s = .slice (some ⟨g, 0, none⟩) 0 0) (B : Option Addr) (m c : Nat) (news : List Value) (hx : a.eval x = .slice B m c) (hl : news.length = m * size)
    (hnews : ∀ j u, news[j]? = some u → ∃ ad, B = some ad ∧ w.cell? (ad.add j) = some u) (h1 : ∀ u ∈ news, u.oneCell' = true) (h63 : m ≤ 9223372036854775807) (hbytes : m * bytes ≤ 140737488355328)
    (h : ∀ A' c' w', OwnW w' e size (.slice A' m c') m news → Keeps NoB w w' → Fresh w (.slice A' m c') → wpList P ops Q rest (a.put o.dst (.slice A' m c')) w') : wpList P ops Q (o :: rest) a (w.alloc (.cells #[] e)) := by
  subst hg
  have hka : Keeps NoB w (w.alloc (.cells #[] e)) := (Keeps.refl NoB w).alloc _
  refine appw_any hgd s x t e z size bytes ho ht hi hzs hsz _ 0 [] hs (ownW_lit w e size) B m c news hx hl (fun j u hj => by
    obtain ⟨ad, e1, hc⟩ := hnews j u hj
    exact ⟨ad, e1, hka.cell hc (fun f => f)⟩) h1 (by omega) (by simpa using hbytes) ?_
  intro A' c' w' hO hk hG
  rw [Nat.zero_add] at hO hG ⊢
  rw [List.nil_append] at hO
  exact h A' c' w' hO (hka.fresh (fresh_lit w _ _) hk) ((fresh_lit w 0 0).grew (w1 := w.alloc (.cells #[] e)) hka.size hG)
end
theorem OwnW.news {w : World} {e : TypeId} {size n m c : Nat} {B : Option Addr} {xs : List Value} (h : OwnW w e size (.slice B m c) n xs) : ∀ j u, xs[j]? = some u → ∃ ad, B = some ad ∧ w.cell? (ad.add j) = some u := fun j u hj => by
  rcases h.2 with ⟨_, hn⟩ | ⟨g, cap, cur, e1, hb, hg, r⟩
  · have := h.1
    rw [hn, Nat.zero_mul] at this
    have := List.eq_nil_of_length_eq_zero this
    subst this
    simp at hj
  · cases e1
    exact ⟨_, rfl, World.ownsRow.cells h (g := g) rfl j u hj⟩
theorem sOf_data (a : List UInt8) : (sOf a).data.toList = a := by simp [sOf]
/-- What is known behind the first two statements. -/
structure MvAt (w wx : World) (gm : Nat) (v : Value) (d : Dir) (m : MoveS) : Prop where
  row : EntV wx v d
  fresh : Fresh w v
  keeps : Keeps NoB w wx
  blk : wx.heap[gm]? = some (.cells #[.int .u8 (m.kind : Nat), .string (sOf m.a), .string (sOf m.b), .int .i64 (m.n : Nat)] 132 (0, 0))
theorem MvAt.kept {w wx wy : World} {gm : Nat} {v : Value} {d : Dir} {m : MoveS} (h : MvAt w wx gm v d m) (k : Keeps NoB wx wy) : MvAt w wy gm v d m :=
  ⟨OwnW.keeps h.row k (fun _ _ f => f), h.fresh, h.keeps.then k, k.obj h.blk (fun f => f)⟩
theorem mv_snoc {w wx w4 : World} {gm q4 n k : Nat} {A4 : Option Addr} {v : Value} {d : Dir} {m : MoveS} {b : List UInt8} {o : Obj} (h : MvAt w wx gm v d m) (hO : OwnW w4 101 2 (.slice A4 k q4) k (d.flatMap entCells ++ [.string (sOf b), .int .i64 (n : Nat)])) (hk : k = d.length + 1)
    (hK : Keeps (ownB v) (wx.alloc o) w4) (hG : Grew (wx.alloc o) v (.slice A4 k q4)) : EntV w4 (.slice A4 k q4) (d ++ [(b, n)]) ∧ Fresh w (.slice A4 k q4) ∧ Keeps NoB w w4 := by
  have ha : Keeps NoB w (wx.alloc o) := h.keeps.alloc o
  refine ⟨?_, h.fresh.grew ha.size hG, ha.fresh h.fresh hK⟩
  unfold EntV
  have e1 : (d ++ [(b, n)]).flatMap entCells = d.flatMap entCells ++ [.string (sOf b), .int .i64 (n : Nat)] := by rw [List.flatMap_append]; simp [entCells]
  have e2 : (d ++ [(b, n)]).length = k := by simp [hk]
  rw [e1, e2]
  exact hO
set_option maxHeartbeats 4000000 in
set_option maxRecDepth 100000 in
theorem rmoved_any (w : World) (v : Value) (d : Dir) (m : MoveS) (h : EntV w v d) (hd : (d.map (·.1)).Nodup) (hl : d.length ≤ 1000000) (hkd : m.kind = 99 ∨ m.kind = 100 ∨ m.kind = 114) :
    Calls Tryz.prog 82 #[v, .agg #[.int .u8 (m.kind : Nat), .string (sOf m.a), .string (sOf m.b), .int .i64 (m.n : Nat)]] w fun e w' => ∃ v', e = .returned v' ∧ EntV w' v' (moved d m) ∧ Fresh w v' ∧ Keeps NoB w w' := by
  obtain ⟨A, c, rfl, _, _⟩ := OwnW.slice h
  have hk1 : Keeps NoB w (w.alloc (.cells #[.int .u8 (m.kind : Nat), .string (sOf m.a), .string (sOf m.b), .int .i64 (m.n : Nat)] 132)) := (Keeps.refl NoB w).alloc _
  have HN := Sd.mk (OwnW.news (OwnW.keeps h hk1 (fun _ _ f => f)))
  have HB1 := Sd.mk (heap_alloc_new w (.cells #[.int .u8 (m.kind : Nat), .string (sOf m.a), .string (sOf m.b), .int .i64 (m.n : Nat)] 132))
  have HK1 := Sd.mk hk1
  have HM := Sd.mk (show m.kind = m.kind from rfl)
  clear h hk1
  go_enter Tryz.func82, Tryz.ntmps82
  go_upto_region 2 with (at_builtin; go_must (refine appw_lit rfl _ _ 34 101 _ 2 24 rfl Tryz.underlying34 infoEntry rfl (by decide) (w.heap.size + 1) (by show _ = (w.heap.push _).size; simp) rfl A d.length c (d.flatMap entCells) rfl (entFlat_len d) HN.o (entFlat_one d) (by omega) (by omega) ?_); intro A1 q1 w2 HO HK HF; have H2 : Sd (MvAt w w2 w.heap.size (.slice A1 d.length q1) d m) := ⟨⟨HO, fun k hk => Nat.le_trans HK1.o.size (HF k hk), HK1.o.then HK, HK.obj HB1.o (fun f => f)⟩⟩; clear HO HK HF)
  generalize w.heap.size = gm at *
  clear HN HB1 HK1
  obtain ⟨kind, a, b, n⟩ := m
  dsimp only at *
  have c0 := blk_cell H2.o.blk 0
  have c1 := blk_cell H2.o.blk 1
  have c2 := blk_cell H2.o.blk 2
  have c3 := blk_cell H2.o.blk 3
  dsimp only at c0 c1 c2 c3
  have CA := rat_any w2 _ d H2.o.row (by omega) (sOf a)
  rw [sOf_data] at CA
  rcases hkd with rfl | rfl | rfl
  · have HCA := Sd.mk CA
    clear CA
    go_wp2_with (first | (go_at_call 79; refine HCA.o.mono ?_; rintro e w3 ⟨rfl, hk⟩; have H3 := Sd.mk (H2.o.kept hk); have d0 := blk_cell H3.o.blk 0; have d1 := blk_cell H3.o.blk 1; have d2 := blk_cell H3.o.blk 2; have d3 := blk_cell H3.o.blk 3; dsimp only at d0 d1 d2 d3; clear hk) | (at_builtin; go_must (refine appw_any rfl _ _ 34 101 _ 2 24 rfl Tryz.underlying34 infoEntry rfl (by decide) (.slice A1 d.length q1) d.length (d.flatMap entCells) rfl (OwnW.keeps H3.o.row ((Keeps.refl NoB _).alloc _) (fun _ _ f => f)) (some ⟨_, 0, none⟩) 1 1 [.string (sOf a), .int .i64 (n : Nat)] rfl rfl (fun j u hj => ⟨_, rfl, cells_new _ _ _ j u hj⟩) (by intro u hu; simp at hu; rcases hu with rfl | rfl <;> rfl) (by omega) (by omega) ?_); intro A9 q9 w9 HO HK HG; have HF := Sd.mk (mv_snoc H3.o HO (by omega) HK HG); clear HO HK HG))
    go_ret
    exact ⟨_, rfl, HF.o⟩
  · cases hat : atN d a with
    | none =>
      rw [atI_none hat] at CA
      have HCA := Sd.mk CA
      have HD : Sd (moved d ⟨100, a, b, n⟩ = d) := ⟨(atN_none hat).2⟩
      clear CA hat
      go_wp2_with (go_at_call 79; refine HCA.o.mono ?_; rintro e w3 ⟨rfl, hk⟩; have H3 := Sd.mk (H2.o.kept hk); have d0 := blk_cell H3.o.blk 0; have d1 := blk_cell H3.o.blk 1; have d2 := blk_cell H3.o.blk 2; have d3 := blk_cell H3.o.blk 3; dsimp only at d0 d1 d2 d3; clear hk)
      go_ret
      exact ⟨_, rfl, by rw [HD.o]; exact H3.o.row, H3.o.fresh, H3.o.keeps⟩
    | some i =>
      rw [atI_some hat] at CA
      have HCA := Sd.mk CA
      have HD : Sd (moved d ⟨100, a, b, n⟩ = d.take i ++ d.drop (i + 1)) := ⟨atN_less hat hd⟩
      obtain ⟨hi, -, -⟩ := atN_some hat
      have hi0 : (0 : Int) ≤ (i : Int) := by omega
      clear CA hat
      go_wp2_with (first | (go_at_call 79; refine HCA.o.mono ?_; rintro e w3 ⟨rfl, hk⟩; have H3 := Sd.mk (H2.o.kept hk); have d0 := blk_cell H3.o.blk 0; have d1 := blk_cell H3.o.blk 1; have d2 := blk_cell H3.o.blk 2; have d3 := blk_cell H3.o.blk 3; dsimp only at d0 d1 d2 d3; clear hk) | (go_at_call 97; refine (rwithout_any _ _ d H3.o.row (by omega) i hi).mono ?_; rintro e w4 ⟨v4, rfl, hr, hf, hk⟩; have HR := Sd.mk hr; have HF : Sd (Fresh w v4) := ⟨fun k hk => Nat.le_trans H3.o.keeps.size (hf k hk)⟩; have HK := Sd.mk (H3.o.keeps.then hk); clear hr hf hk))
      go_ret
      exact ⟨_, rfl, by rw [HD.o]; exact HR.o, HF.o, HK.o⟩
  · cases hat : atN d a with
    | none =>
      rw [atI_none hat] at CA
      have HCA := Sd.mk CA
      have HD : Sd (moved d ⟨114, a, b, n⟩ = d) := ⟨by
        have := (atN_none hat).1
        unfold moved Dir.at_
        simp only [this]
        rfl⟩
      clear CA hat
      go_wp2_with (go_at_call 79; refine HCA.o.mono ?_; rintro e w3 ⟨rfl, hk⟩; have H3 := Sd.mk (H2.o.kept hk); have d0 := blk_cell H3.o.blk 0; have d1 := blk_cell H3.o.blk 1; have d2 := blk_cell H3.o.blk 2; have d3 := blk_cell H3.o.blk 3; dsimp only at d0 d1 d2 d3; clear hk)
      go_ret
      exact ⟨_, rfl, by rw [HD.o]; exact H3.o.row, H3.o.fresh, H3.o.keeps⟩
    | some i =>
      rw [atI_some hat] at CA
      have HCA := Sd.mk CA
      obtain ⟨hi, hi1, hi2⟩ := atN_some hat
      have hi0 : ¬ (i : Int) < 0 := by omega
      have hi3 : (0 : Int) ≤ (i : Int) := by omega
      have hi4 : (i : Int) < (d.length : Int) := by omega
      by_cases hab : a = b
      · subst hab
        have HD : Sd (moved d ⟨114, a, a, n⟩ = d) := ⟨by
          unfold moved Dir.at_
          simp [hi2]⟩
        clear CA hat hi1 hi2
        go_wp2_with (go_at_call 79; refine HCA.o.mono ?_; rintro e w3 ⟨rfl, hk⟩; have H3 := Sd.mk (H2.o.kept hk); have d0 := blk_cell H3.o.blk 0; have d1 := blk_cell H3.o.blk 1; have d2 := blk_cell H3.o.blk 2; have d3 := blk_cell H3.o.blk 3; dsimp only at d0 d1 d2 d3; clear hk)
        go_ret
        exact ⟨_, rfl, by rw [HD.o]; exact H3.o.row, H3.o.fresh, H3.o.keeps⟩
      · have hb : ((sOf a).toList == (sOf b).toList) = false := by rw [sOf_toL, sOf_toL]; simpa using hab
        have hle : d.less a = d.take i ++ d.drop (i + 1) := atN_less hat hd
        have HD : Sd (moved d ⟨114, a, b, n⟩ = Dir.less (d.take i ++ d.drop (i + 1)) b ++ [(b, (d[i]).2)]) := ⟨by
          unfold moved Dir.at_
          rw [← hle]
          simp [hi2, hab]⟩
        have hd1 : ((d.take i ++ d.drop (i + 1)).map (·.1)).Nodup := by
          rw [← hle]
          exact hd.sublist ((less_sub d a).map _)
        have hl1 : (d.take i ++ d.drop (i + 1)).length ≤ 1000000 := by simp; omega
        clear CA hat hi1 hi2 hle hab
        obtain ⟨d1, hd1e⟩ : ∃ d1, d1 = d.take i ++ d.drop (i + 1) := ⟨_, rfl⟩
        rw [← hd1e] at hd1 hl1 HD
        have HD1 := Sd.mk hd1e
        clear hd1e
        go_upto_region 14 with (first | (go_at_call 79; refine HCA.o.mono ?_; rintro e w3 ⟨rfl, hk⟩; have H3 := Sd.mk (H2.o.kept hk); obtain ⟨g3, e3, hg3, h30, h31⟩ := EntV.get H3.o.row hi; cases hg3; have p0 := blk_cell H3.o.blk 0; have p1 := blk_cell H3.o.blk 1; have p2 := blk_cell H3.o.blk 2; dsimp only at p0 p1 p2; clear hk) | (go_at_call 97; refine (rwithout_any _ _ d H3.o.row (by omega) i hi).mono ?_; rw [← HD1.o]; rintro e w4 ⟨v4, rfl, hr, hf, hk⟩; have H4 : Sd (MvAt w w4 gm v4 d1 ⟨114, a, b, n⟩) := ⟨⟨hr, fun k hk => Nat.le_trans H3.o.keeps.size (hf k hk), H3.o.keeps.then hk, hk.obj H3.o.blk (fun f => f)⟩⟩; clear hr hf hk))
        obtain ⟨A4, q4, hv4, -, -⟩ := OwnW.slice H4.o.row
        subst hv4
        have CB := rat_any w4 _ d1 H4.o.row (by omega) (sOf b)
        rw [sOf_data] at CB
        have b0 := blk_cell H4.o.blk 0
        have b1 := blk_cell H4.o.blk 1
        have b2 := blk_cell H4.o.blk 2
        dsimp only at b0 b1 b2
        clear c0 c1 c2 c3 p0 p1 p2 h30 h31 H2 H3 HCA HD1 hb
        cases hbt : atN d1 b with
        | none =>
          rw [atI_none hbt] at CB
          have HCB := Sd.mk CB
          rw [(atN_none hbt).2] at HD
          clear CB hbt
          go_wp2_with (first | (go_at_call 79; refine HCB.o.mono ?_; rintro e w5 ⟨rfl, hk⟩; have H5 := Sd.mk (H4.o.kept hk); have r2 := blk_cell H5.o.blk 2; dsimp only at r2; clear hk) | (at_builtin; go_must (refine appw_any rfl _ _ 34 101 _ 2 24 rfl Tryz.underlying34 infoEntry rfl (by decide) (.slice A4 d1.length q4) d1.length (d1.flatMap entCells) rfl (OwnW.keeps H5.o.row ((Keeps.refl NoB _).alloc _) (fun _ _ f => f)) (some ⟨_, 0, none⟩) 1 1 [.string (sOf b), .int .i64 (d[i].2 : Nat)] rfl rfl (fun j u hj => ⟨_, rfl, cells_new _ _ _ j u hj⟩) (by intro u hu; simp at hu; rcases hu with rfl | rfl <;> rfl) (by omega) (by omega) ?_); intro A9 q9 w9 HO HK HG; have HF := Sd.mk (mv_snoc H5.o HO (by omega) HK HG); clear HO HK HG))
          go_ret
          exact ⟨_, rfl, by rw [HD.o]; exact HF.o⟩
        | some k =>
          rw [atI_some hbt] at CB
          have HCB := Sd.mk CB
          rw [atN_less hbt hd1] at HD
          obtain ⟨hk1, -, -⟩ := atN_some hbt
          have hk0 : (0 : Int) ≤ (k : Int) := by omega
          obtain ⟨d2, hd2⟩ : ∃ d2, d2 = d1.take k ++ d1.drop (k + 1) := ⟨_, rfl⟩
          have hl2 : d2.length ≤ 1000000 := by rw [hd2]; simp; omega
          rw [← hd2] at HD
          have HD2 := Sd.mk hd2
          clear CB hbt hd2
          go_wp2_with (first | (go_at_call 79; refine HCB.o.mono ?_; rintro e w5 ⟨rfl, hk⟩; have H5 := Sd.mk (H4.o.kept hk); clear hk) | (go_at_call 97; refine (rwithout_any _ _ d1 H5.o.row (by omega) k hk1).mono ?_; rw [← HD2.o]; rintro e w6 ⟨v6, rfl, hr, hf, hk⟩; obtain ⟨A6, q6, hv6, -, -⟩ := OwnW.slice hr; subst hv6; have H6 : Sd (MvAt w w6 gm (.slice A6 d2.length q6) d2 ⟨114, a, b, n⟩) := ⟨⟨hr, fun k hk => Nat.le_trans H5.o.keeps.size (hf k hk), H5.o.keeps.then hk, hk.obj H5.o.blk (fun f => f)⟩⟩; have r2 := blk_cell H6.o.blk 2; dsimp only at r2; clear hr hf hk) | (at_builtin; go_must (refine appw_any rfl _ _ 34 101 _ 2 24 rfl Tryz.underlying34 infoEntry rfl (by decide) (.slice A6 d2.length q6) d2.length (d2.flatMap entCells) rfl (OwnW.keeps H6.o.row ((Keeps.refl NoB _).alloc _) (fun _ _ f => f)) (some ⟨_, 0, none⟩) 1 1 [.string (sOf b), .int .i64 (d[i].2 : Nat)] rfl rfl (fun j u hj => ⟨_, rfl, cells_new _ _ _ j u hj⟩) (by intro u hu; simp at hu; rcases hu with rfl | rfl <;> rfl) (by omega) (by omega) ?_); intro A9 q9 w9 HO HK HG; have HF := Sd.mk (mv_snoc H6.o HO (by omega) HK HG); clear HO HK HG))
          go_ret
          exact ⟨_, rfl, by rw [HD.o]; exact HF.o⟩
end Go.Proofs.YtlhhcoijkjcneaaGreat
