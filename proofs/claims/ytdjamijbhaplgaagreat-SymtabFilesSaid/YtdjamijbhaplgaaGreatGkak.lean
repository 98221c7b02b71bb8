/- simfs: changes of names. -/
import Derived.Test.YtdjamijbhaplgaaGreatGkaj
namespace Go.Proofs.YtdjamijbhaplgaaGreat
open Go.RowKit Go.Maps Go.Lib

section
variable {w : World} {ops : Array Oper} {rest : List Oper} {o : Oper} {a : Act} {Q : Exit → Act → World → Prop}
theorem wpList_delete_names (hg : o.guard = none) (m x : Operand) (hop : o.op = Op.call { callee := Callee.builtin Builtin.delete, args := #[m, x], argTypes := #[78, 9] })
    {b : Nat} {d : Dir} (hm : a.eval m = .map (some b)) (h : MapN w b d) (hd : (d.map (·.1)).Nodup) (S : ByteArray) (hS : S.size ≤ 9223372036854775807) (hx : a.eval x = .string S)
    (hK : ∀ w', MapN w' b (d.less S.data.toList) → Keeps (OneB b) w w' → wpList Tryz.prog ops Q rest (a.put o.dst (.tuple #[])) w') : wpList Tryz.prog ops Q (o :: rest) a w := by
  refine wpList_plain hg fun K' hK' => ?_
  obtain ⟨w', hrun, r1, r2⟩ := h.del hd S hS o.type
  unfold Oper.wp
  simp [execOp, hop, resolve, invoke, builtin, hm, hx, hrun, Result.andThen]
  exact hK' _ _ (hK w' r1 r2)
end
theorem FsOne.trans {w w1 w2 : World} {k : Nat} (h : Keeps (OneB k) w w1) (q : Keeps (OneB k) w1 w2) : Keeps (OneB k) w w2 := h.trans q (fun _ _ f => f) (fun _ _ f => f)
theorem less_comm (d : Dir) (a b : List UInt8) : (d.less a).less b = (d.less b).less a := by
  unfold Dir.less
  rw [List.filter_filter, List.filter_filter]
  congr 1
  funext e
  exact Bool.and_comm _ _
theorem moved_same {N : Nat} {d : Dir} (h : GoodDir N d) {a : List UInt8} {n : Nat} (hl : d.lookup a = some n) : (d.less a ++ [(a, n)]).length = d.length ∧ ∀ s, (d.less a ++ [(a, n)]).lookup s = d.lookup s := by
  have hlen := less_len d a h.names
  rw [hl] at hlen
  refine ⟨by simp at hlen ⊢; omega, fun s => ?_⟩
  rw [List.lookup_append, lookup_less]
  by_cases hs : s = a
  · subst hs; rw [if_pos rfl, hl]; simp
  · have hb : (s == a) = false := by simpa using hs
    rw [if_neg hs]
    simp [List.lookup_cons, hb]
set_option maxHeartbeats 4000000 in
set_option maxRecDepth 100000 in
theorem monto_any (w : World) (x : MoveS) (mn N : Nat) (d : Dir) (hN : MapN w mn d) (good : GoodDir N d) (hm : MoveOk N d x) (hlen : d.length ≤ 1000000) (hNN : N ≤ 4611686018427387904) (ha : x.a.length ≤ 9223372036854775807) (hb : x.b.length ≤ 9223372036854775807) :
    Calls Tryz.prog 30 #[.agg (moveCells x).toArray, .map (some mn)] w fun e w' => e = .returned (.tuple #[]) ∧ MapN w' mn (moved d x) ∧ Keeps (OneB mn) w w' := by
  obtain ⟨kind, xa, xb, xn⟩ := x
  dsimp only [moveCells] at *
  obtain ⟨kI, hkI⟩ : ∃ kI : Int, kI = (kind : Nat) := ⟨_, rfl⟩
  rw [← hkI]
  have sa : (sOf xa).size ≤ 9223372036854775807 := by rw [sOf_size]; exact ha
  have sb : (sOf xb).size ≤ 9223372036854775807 := by rw [sOf_size]; exact hb
  have hla : (sOf xa).data.toList = xa := rfl
  have hlb : (sOf xb).data.toList = xb := rfl
  obtain ⟨w1, hw1⟩ : ∃ w1, w1 = w.alloc (.cells #[.int .u8 kI, .string (sOf xa), .string (sOf xb), .int .i64 xn] 88) := ⟨_, rfl⟩
  have hk1 : Keeps NoB w w1 := by rw [hw1]; exact (Keeps.refl NoB w).alloc _
  have hne : mn ≠ w.heap.size := fun e => by have := hN.lt; omega
  have hN1 : MapN w1 mn d := hN.keeps hk1 (fun f => f)
  have HN1 := Sd.mk hN1
  have GD := Sd.mk good
  have HK1 := Sd.mk hk1
  have b1 : w1.heap[w.heap.size]? = some (.cells #[.int .u8 kI, .string (sOf xa), .string (sOf xb), .int .i64 xn] 88 (0, 0)) := by rw [hw1]; exact heap_alloc_new w _
  have B1 := Sd.mk b1
  have HW1 := Sd.mk hw1
  have MO := Sd.mk hm
  clear hN hw1 hk1 hN1 b1 good hm ha hb
  have fin : Sd (∀ d' w', MapN w' mn d' → Keeps (OneB mn) w1 w' → d' = moved d ⟨kind, xa, xb, xn⟩ → MapN w' mn (moved d ⟨kind, xa, xb, xn⟩) ∧ Keeps (OneB mn) w w') := ⟨fun d' w' h k e => ⟨e ▸ h, HK1.o.trans k (fun _ _ f => f.elim) (fun _ _ f => f)⟩⟩
  rcases MO.o with ⟨hk, hl, hnn, hn1, hn2⟩ | hk | hk
  · dsimp only at hk hl hnn hn1 hn2
    have hkI2 : kI = 99 := by omega
    clear hkI
    subst hkI2
    subst hk
    obtain ⟨w2, hput, hN2, hk2⟩ := HN1.o.put GD.o.names (sOf xa) sa xn (by omega) (by omega)
    rw [HW1.o] at hput
    rw [hla, less_of_none hl] at hN2
    have HN2 := Sd.mk hN2
    have HK2 := Sd.mk hk2
    clear hN2 hk2 hl hnn
    go_enter Tryz.func30, Tryz.ntmps30
    go_wp2
    go_end0
    exact ⟨rfl, fin.o _ _ HN2.o HK2.o rfl⟩
  · dsimp only at hk
    have hkI2 : kI = 100 := by omega
    clear hkI
    subst hkI2
    subst hk
    go_enter Tryz.func30, Tryz.ntmps30
    go_wp2_with (at_delete; refine wpList_delete_names rfl _ _ rfl rfl (HW1.o ▸ HN1.o) GD.o.names (sOf xa) sa rfl ?_; intro w2 hN2 hk2; have HN2 := Sd.mk hN2; have HK2 := Sd.mk hk2; clear hN2 hk2)
    go_end0
    exact ⟨rfl, fin.o _ _ HN2.o (HW1.o ▸ HK2.o) rfl⟩
  · dsimp only at hk
    have hkI2 : kI = 114 := by omega
    clear hkI
    subst hkI2
    subst hk
    have hlook := HN1.o.look (sOf xa) sa
    rw [hla, HW1.o] at hlook
    cases hl : d.lookup xa with
    | none =>
      have hmv : Sd (moved d ⟨114, xa, xb, xn⟩ = d) := ⟨by unfold moved Dir.at_; rw [if_neg (by simp), if_neg (by simp)]; dsimp only; rw [hl]⟩
      rw [hl] at hlook
      clear hl
      go_enter Tryz.func30, Tryz.ntmps30
      go_wp2
      go_end0
      rw [hmv.o]
      exact ⟨rfl, HW1.o ▸ HN1.o, HK1.o.trans (HW1.o ▸ Keeps.refl (OneB mn) w1) (fun _ _ f => f.elim) (fun _ _ f => f)⟩
    | some n =>
      have HL := Sd.mk hl
      have hln : n ≤ 4611686018427387904 := Nat.le_trans (GD.o.low _ (lookup_mem hl)).2 hNN
      rw [hl] at hlook
      clear hl
      go_enter Tryz.func30, Tryz.ntmps30
      go_wp2_with (at_delete; refine wpList_delete_names rfl _ _ rfl rfl (HW1.o ▸ HN1.o) GD.o.names (sOf xa) sa rfl ?_; intro w2 hN2 hk2; have HN2 := Sd.mk hN2; have HK2 := Sd.mk hk2; obtain ⟨w3, hput, hN3, hk3⟩ := hN2.put (GD.o.less xa).names (sOf xb) sb n hln (Nat.le_trans (less_sub d xa).length_le (by omega)); have HN3 := Sd.mk hN3; have HK3 := Sd.mk hk3; have hb2 := hk2.cell (blk_cell (HW1.o ▸ B1.o) 2) (fun e => hne e.symm); clear hN2 hk2 hN3 hk3)
      go_end0
      have hq3 : Keeps (OneB mn) w1 w3 := (HW1.o ▸ HK2.o : Keeps (OneB mn) w1 w2).trans HK3.o (fun _ _ f => f) (fun _ _ f => f)
      have hn3 := HN3.o
      rw [hla, hlb] at hn3
      refine ⟨rfl, ?_⟩
      by_cases hab : xa = xb
      · subst hab
        have hmv : moved d ⟨114, xa, xa, xn⟩ = d := by
          unfold moved Dir.at_
          rw [if_neg (by simp), if_neg (by simp)]
          dsimp only
          rw [HL.o]
          dsimp only
          rw [if_pos rfl]
        obtain ⟨e1, e2⟩ := moved_same GD.o HL.o
        have hll : (d.less xa).less xa = d.less xa := less_of_none (by rw [lookup_less, if_pos rfl])
        rw [hll] at hn3
        exact fin.o d w3 (hn3.congr e1.symm (fun s => (e2 s).symm)) hq3 hmv.symm
      · have hmv : moved d ⟨114, xa, xb, xn⟩ = (d.less xa).less xb ++ [(xb, n)] := by
          unfold moved Dir.at_
          rw [if_neg (by simp), if_neg (by simp)]
          dsimp only
          rw [HL.o]
          dsimp only
          rw [if_neg hab]
        exact fin.o _ w3 hn3 hq3 hmv.symm
end Go.Proofs.YtdjamijbhaplgaaGreat
namespace Go.Proofs.YtdjamijbhaplgaaGreat
open Go.RowKit Go.Maps Go.Lib

/-- What kind a block is: 0: no row; else its elements' type, and one. -/
def knd (w : World) (i : Nat) : Nat := match w.heap[i]? with
  | some (.cells _ t _) => t + 1
  | _ => 0
theorem knd_cells {w : World} {i : Nat} {cs : Array Value} {t : TypeId} {q : Nat × Nat} (h : w.heap[i]? = some (.cells cs t q)) : knd w i = t + 1 := by unfold knd; rw [h]
theorem knd_map {w : World} {i : Nat} {es : Array MapEntry} {c : Nat} (h : w.heap[i]? = some (.map es c)) : knd w i = 0 := by unfold knd; rw [h]
theorem OwnW.knd {w : World} {e : TypeId} {size n : Nat} {v : Value} {xs : List Value} (h : OwnW w e size v n xs) {k : Nat} (hk : v.ownBlock = some k) : knd w k = e + 1 := by
  obtain ⟨cur, hb⟩ := h.blk hk
  exact knd_cells hb
theorem MapN.knd {w : World} {b : Nat} {d : Dir} (h : MapN w b d) : knd w b = 0 := by obtain ⟨es, c, hb⟩ := h.isMap; exact knd_map hb
theorem MapF.knd {w : World} {b N : Nat} {g : Nat → Option Nat} (h : MapF w b N g) : knd w b = 0 := by obtain ⟨es, c, hb⟩ := h.isMap; exact knd_map hb
theorem notU8_knd {w : World} {F : Nat → Prop} (h : ∀ i, F i → knd w i ≠ 5 + 1) : NotU8 w F := fun i hi cur q hb => h i hi (knd_cells hb)
theorem IsFile.keepsK {F : Nat → Prop} {w w' : World} {f : FMem} {x : FileS} (h : IsFile w f x) (k : Keeps F w w') (hF : ∀ i, F i → knd w i ≠ 111 + 1 ∧ knd w i ≠ 153 + 1 ∧ knd w i ≠ 5 + 1) : IsFile w' f x :=
  h.keeps k (fun i hi f => by
    rcases hi with rfl | hi
    · exact (hF _ f).1 (knd_cells h.blk)
    · exact (hF _ f).2.1 (OwnW.knd h.log hi)) (notU8_knd fun i hi => (hF i hi).2.2)

section
variable {P : Program} {w : World} {ops : Array Oper} {o : Oper} {a : Act} {Q : Exit → Act → World → Prop}
/-- append of structs onto an owned row. -/
theorem wp_app_w {K : Act → World → Prop} (s x : Operand) (t e : TypeId) (z : Value) (size bytes : Nat) (ho : o.op = .call { callee := .builtin .append, args := #[s, x], argTypes := #[t, t] })
    (ht : P.underlying t = some (.slice e)) (hi : (P.info? e).map (fun i => (i.zero, i.size, i.bytes)) = some (some z, size, bytes)) (hzs : z.cells.size = size) (hsz : 0 < size)
    (v : Value) (n : Nat) (xs : List Value) (hs : a.eval s = v) (hown : OwnW w e size v n xs)
    (ad : Addr) (m c : Nat) (news : List Value) (hx : a.eval x = .slice (some ad) m c) (hl : news.length = m * size) (hnews : ∀ j u, news[j]? = some u → w.cell? (ad.add j) = some u) (h1 : ∀ u ∈ news, u.oneCell' = true)
    (h63 : n + m ≤ 9223372036854775807) (hbytes : (n + m) * bytes ≤ 140737488355328)
    (h : ∀ A' c' w', OwnW w' e size (.slice A' (n + m) c') (n + m) (xs ++ news) → Keeps (ownB v) w w' → Grew w v (.slice A' (n + m) c') → K (a.put o.dst (.slice A' (n + m) c')) w') : o.wp P a w K Q := by
  obtain ⟨i0, hi', hz0, hz1, hz2⟩ := info_parts hi
  obtain ⟨v', w', hr, h2, h3, _, h5⟩ := run_append_own_at (P := P) w 0 t o.type e i0 z size bytes ht hi' hz0 hz1 hz2 hzs hsz v n xs hown ad m c news hl hnews h1 (by unfold maxLen; omega) hbytes (Nat.zero_le _)
  obtain ⟨A', c', rfl, _⟩ := OwnW.slice h2
  unfold Oper.wp execOp
  simp only [ho, resolve, invoke, builtin, Sem.run_bind, Sem.run_pure, Result.andThen_ok, List.map_toArray, List.map_cons, List.map_nil, hs, hx, hr]
  refine h A' c' w' h2 (Keeps.of_grown h3 (fun b hb _ => hb)) fun k hk => ?_
  rcases h5 with h5 | h5
  · rw [h5] at hk; exact .inl hk
  · rw [h5] at hk; cases hk; exact .inr (Nat.le_refl _)
theorem step_app_w {K : Act → World → Prop} {E : Prop} (hgd : o.guard = none) (s x : Operand) (t e : TypeId) (z : Value) (size bytes : Nat) (ho : o.op = .call { callee := .builtin .append, args := #[s, x], argTypes := #[t, t] })
    (ht : P.underlying t = some (.slice e)) (hi : (P.info? e).map (fun i => (i.zero, i.size, i.bytes)) = some (some z, size, bytes)) (hzs : z.cells.size = size) (hsz : 0 < size)
    (v : Value) (n : Nat) (xs : List Value) (hs : a.eval s = v) (hown : OwnW w e size v n xs)
    (ad : Addr) (m c : Nat) (news : List Value) (hx : a.eval x = .slice (some ad) m c) (hl : news.length = m * size) (hnews : ∀ j u, news[j]? = some u → w.cell? (ad.add j) = some u) (h1 : ∀ u ∈ news, u.oneCell' = true)
    (h63 : n + m ≤ 9223372036854775807) (hbytes : (n + m) * bytes ≤ 140737488355328)
    (h : ∀ A' c' w', OwnW w' e size (.slice A' (n + m) c') (n + m) (xs ++ news) → Keeps (ownB v) w w' → Grew w v (.slice A' (n + m) c') → K (a.put o.dst (.slice A' (n + m) c')) w') : if Region.wanted o (yielded ops a.tmps) = true then o.wp P a w K Q else E := by
  have hw : Region.wanted o (yielded ops a.tmps) = true := by simp [Region.wanted, hgd]
  rw [if_pos hw]
  exact wp_app_w s x t e z size bytes ho ht hi hzs hsz v n xs hs hown ad m c news hx hl hnews h1 h63 hbytes h
end
theorem infoMove : (Tryz.prog.info? 88).map (fun i => (i.zero, i.size, i.bytes)) = some (some (.agg #[.int .u8 0, .string ⟨#[]⟩, .string ⟨#[]⟩, .int .i64 0]), 4, 48) := by kernel_rfl
theorem infoDone : (Tryz.prog.info? 153).map (fun i => (i.zero, i.size, i.bytes)) = some (some (.agg #[.bool false, .int .i64 0, .string ⟨#[]⟩]), 3, 32) := by kernel_rfl
end Go.Proofs.YtdjamijbhaplgaaGreat
namespace Go.Proofs.YtdjamijbhaplgaaGreat
open Go.RowKit Go.Maps Go.Lib

/-- The load of a struct's cells. -/
theorem cells_new (w : World) (cs : List Value) (e : TypeId) : ∀ j u, cs[j]? = some u → (w.alloc (.cells cs.toArray e)).cell? ((⟨w.heap.size, 0, none⟩ : Addr).add j) = some u := by
  intro j u hj
  rw [add_lit, blk_cell (heap_alloc_new w _)]
  simpa using hj
set_option maxHeartbeats 8000000 in
set_option maxRecDepth 100000 in
theorem changes_any (w : World) (b mn N : Nat) (d : Dir) (c0 c1 c3 mv : Value) (c5 : Value) (ops : Nat) (left : Int) (off : Bool) (M : List MoveS) (x : MoveS)
    (h : w.heap[b]? = some (.cells #[c0, c1, .map (some mn), c3, mv, c5, .int .i64 (ops : Nat), .int .i64 left, .bool off] 81 (0, 0))) (ho : ops ≤ 4611686018427387904) (hl : -1 ≤ left ∧ left ≤ 9223372036854775807)
    (hN : MapN w mn d) (good : GoodDir N d) (hm : MoveOk N d x) (hlen : d.length ≤ 1000000) (hNN : N ≤ 4611686018427387904) (hxa : x.a.length ≤ 9223372036854775807) (hxb : x.b.length ≤ 9223372036854775807)
    (hM : MovesV w mv M) (hMl : M.length ≤ 1000000000) :
    Calls Tryz.prog 107 #[.pointer (some ⟨b, 0, none⟩), .agg (moveCells x).toArray] w fun e w' => e = .returned (.int .i64 0) ∧ ∃ A' c',
      w'.heap[b]? = some (.cells #[c0, c1, .map (some mn), c3, .slice A' (M.length + 1) c', c5, .int .i64 ((ops + 1 : Nat) : Int), .int .i64 (if 0 < left then left - 1 else left), .bool (if 0 < left then decide (left = 1) else off)] 81 (0, 0)) ∧
      MapN w' mn (moved d x) ∧ MovesV w' (.slice A' (M.length + 1) c') (M ++ [x]) ∧ Grew w mv (.slice A' (M.length + 1) c') ∧ Keeps (fun i => i = b ∨ i = mn ∨ mv.ownBlock = some i) w w' := by
  have hbl := (Array.getElem?_eq_some_iff.1 h).1
  have kb := knd_cells h
  have kn := hN.knd
  have hbn : b ≠ mn := fun e => by rw [e, kn] at kb; cases kb
  have hmb : mv.ownBlock ≠ some b := fun e => by rw [OwnW.knd hM e] at kb; cases kb
  have hmn : mv.ownBlock ≠ some mn := fun e => by rw [OwnW.knd hM e] at kn; cases kn
  obtain ⟨k1, s1, s2, n1, hC⟩ : ∃ (k1 : Int) (s1 s2 : ByteArray) (n1 : Int), (moveCells x).toArray = #[.int .u8 k1, .string s1, .string s2, .int .i64 n1] := ⟨_, _, _, _, rfl⟩
  have hCl : moveCells x = [.int .u8 k1, .string s1, .string s2, .int .i64 n1] := by
    have := congrArg Array.toList hC
    simpa using this
  obtain ⟨w1, hw1⟩ : ∃ w1, w1 = w.alloc (.cells #[.int .u8 k1, .string s1, .string s2, .int .i64 n1] 88) := ⟨_, rfl⟩
  have hk1 : Keeps NoB w w1 := by rw [hw1]; exact (Keeps.refl NoB w).alloc _
  have HM : Sd (∀ wx, Keeps NoB w1 wx → Calls Tryz.prog 30 #[.agg #[.int .u8 k1, .string s1, .string s2, .int .i64 n1], .map (some mn)] wx fun e w' => e = .returned (.tuple #[]) ∧ MapN w' mn (moved d x) ∧ Keeps (OneB mn) wx w') := ⟨fun wx hk => by
    rw [← hC]
    exact monto_any wx x mn N d (hN.keeps (hk1.then hk) (fun f => f)) good hm hlen hNN hxa hxb⟩
  have b1 : w1.heap[w.heap.size]? = some (.cells #[.int .u8 k1, .string s1, .string s2, .int .i64 n1] 88 (0, 0)) := by rw [hw1]; exact heap_alloc_new w _
  have H := Sd.mk h
  have B1 := Sd.mk b1
  have HK1 := Sd.mk hk1
  have HW1 := Sd.mk hw1
  have HMV := Sd.mk hM
  have HCL := Sd.mk hCl
  have hmvs : mv.ownBlock ≠ some w.heap.size := fun e => by have := OwnW.lt hM e; omega
  have hmlt := fun k (e : mv.ownBlock = some k) => OwnW.lt hM e
  have HMLT := Sd.mk hmlt
  have hmns : mn ≠ w.heap.size := fun e => by have := hN.lt; omega
  have kb2 : b ≠ w.heap.size := by omega
  rw [hC]
  obtain ⟨l2, hl2⟩ : ∃ l2, l2 = (if 0 < left then left - 1 else left) := ⟨_, rfl⟩
  obtain ⟨o2, ho2⟩ : ∃ o2, o2 = (if 0 < left then decide (left = 1) else off) := ⟨_, rfl⟩
  rw [← hl2, ← ho2]
  have HL2 := Sd.mk hl2
  have HO2 := Sd.mk ho2
  clear hl2 ho2
  clear h hN good hm hlen hNN hxa hxb hM hC hCl hw1 hk1 b1 hmlt kb kn
  go_enter Tryz.func107, Tryz.ntmps107
  go_upto_region 1 with fail
  rw [← HW1.o]
  have q0 : w1.cell? ⟨w.heap.size, 0, none⟩ = some (.int .u8 k1) := blk_cell B1.o 0
  have q1 : w1.cell? ⟨w.heap.size, 1, none⟩ = some (.string s1) := blk_cell B1.o 1
  have q2 : w1.cell? ⟨w.heap.size, 2, none⟩ = some (.string s2) := blk_cell B1.o 2
  have q3 : w1.cell? ⟨w.heap.size, 3, none⟩ = some (.int .i64 n1) := blk_cell B1.o 3
  have p2 : w1.cell? ⟨b, 2, none⟩ = some (.map (some mn)) := HK1.o.cell (blk_cell H.o 2) (fun f => f)
  go_cut [10] (fun sx wx => sx = .tuple #[] ∧ Sd (MapN wx mn (moved d x)) ∧ Sd (Keeps (OneB mn) w1 wx))
  case first =>
    go_region_law
      (go_simp; go_at_call 30
       refine (HM.o _ (Keeps.drewN (Keeps.refl NoB w1) 1)).mono ?_
       rintro e w2 ⟨rfl, hn2, hk2⟩
       have HN2 := Sd.mk hn2
       have HK2 : Sd (Keeps (OneB mn) w1 w2) := ⟨hk2.undrew⟩
       clear hn2 hk2)
    all_goals (go_wp2_with fail; go_meet; exact ⟨rfl, HN2, HK2⟩)
  obtain ⟨rfl, HN2, HK2⟩ := hcut
  obtain ⟨w2, hw2⟩ : ∃ w2, w2 = wc := ⟨_, rfl⟩
  subst hw2
  clear q0 q1 q2 q3 p2 HM
  have q0 : w2.cell? ⟨w.heap.size, 0, none⟩ = some (.int .u8 k1) := HK2.o.cell (blk_cell B1.o 0) (fun f => hmns f.symm)
  have q1 : w2.cell? ⟨w.heap.size, 1, none⟩ = some (.string s1) := HK2.o.cell (blk_cell B1.o 1) (fun f => hmns f.symm)
  have q2 : w2.cell? ⟨w.heap.size, 2, none⟩ = some (.string s2) := HK2.o.cell (blk_cell B1.o 2) (fun f => hmns f.symm)
  have q3 : w2.cell? ⟨w.heap.size, 3, none⟩ = some (.int .i64 n1) := HK2.o.cell (blk_cell B1.o 3) (fun f => hmns f.symm)
  have hb2 : w2.heap[b]? = _ := HK2.o.obj (HK1.o.obj H.o (fun f => f)) (fun f => hbn f)
  have p4 : w2.cell? ⟨b, 4, none⟩ = some mv := blk_cell hb2 4
  have f4 := blk_frozen hb2 4
  have HB2 := Sd.mk hb2
  have HMV2 : Sd (MovesV w2 mv M) := ⟨(OwnW.keeps HMV.o HK1.o (fun _ _ f => f)).keeps HK2.o (fun i hi f => hmn (f ▸ hi))⟩
  clear hb2
  go_upto_region 2 with fail
  go_cut [18] (fun sx wx => ∃ A' c', sx = .slice A' (M.length + 1) c' ∧ Sd (wx.heap[b]? = some (.cells #[c0, c1, .map (some mn), c3, .slice A' (M.length + 1) c', c5, .int .i64 (ops : Nat), .int .i64 left, .bool off] 81 (0, 0))) ∧
    Sd (MovesV wx (.slice A' (M.length + 1) c') (M ++ [x])) ∧ Sd (Grew w2 mv (.slice A' (M.length + 1) c')) ∧ Sd (Keeps (fun i => i = b ∨ mv.ownBlock = some i) w2 wx))
  case first =>
    have p4' : (w2.alloc (.cells #[.int .u8 k1, .string s1, .string s2, .int .i64 n1] 88)).cell? ⟨b, 4, none⟩ = some mv := ((Keeps.refl NoB w2).alloc _).cell p4 (fun f => f)
    go_region_law
      (refine step_app_w rfl _ _ 79 88 _ 4 48 rfl Tryz.underlying79 infoMove rfl (by decide) mv M.length (M.flatMap moveCells) rfl (OwnW.keeps HMV2.o ((Keeps.refl NoB w2).drew.alloc _) (fun _ _ f => f)) ⟨w2.heap.size, 0, none⟩ 1 1 [.int .u8 k1, .string s1, .string s2, .int .i64 n1] rfl rfl (cells_new w2.drew _ _) (by intro u hu; simp at hu; rcases hu with rfl | rfl | rfl | rfl <;> rfl) (by omega) (by omega) ?_
       intro A6 c6 w6 hO6 hK6 hG6
       have HO6 := Sd.mk hO6
       have HK6 : Sd (Keeps (ownB mv) w2 w6) := ⟨((Keeps.refl (ownB mv) w2).drew.alloc _).trans hK6 (fun _ _ f => f) (fun _ _ f => f)⟩
       have HG6 : Sd (Grew w2 mv (.slice A6 (M.length + 1) c6)) := ⟨fun k hk => (hG6 k hk).imp id (fun h => by simp at h; omega)⟩
       have hb6 : w6.heap[b]? = _ := HK6.o.obj HB2.o (fun f => hmb f)
       have f46 := blk_frozen hb6 4
       have p46 : w6.cell? ⟨b, 4, none⟩ = some mv := blk_cell hb6 4
       have HB6 := Sd.mk hb6
       have kbb := knd_cells hb6
       clear hO6 hK6 hG6 hb6)
    all_goals (
      go_wp2_with fail
      go_meet
      refine ⟨A6, c6, rfl, ⟨blk_set HB6.o 4 _⟩, ⟨?_⟩, HG6, ⟨?_⟩⟩
      · have e1 : (M ++ [x]).flatMap moveCells = M.flatMap moveCells ++ [.int .u8 k1, .string s1, .string s2, .int .i64 n1] := by rw [List.flatMap_append]; simp [HCL.o]
        have e2 : (M ++ [x]).length = M.length + 1 := by simp
        unfold MovesV
        rw [e1, e2]
        refine OwnW.keeps (F := OneB b) HO6.o ((Keeps.refl (OneB b) w6).setCell ⟨b, 4, none⟩ _ (fun _ => rfl)) (fun k hk f => ?_)
        cases f
        rw [OwnW.knd HO6.o hk] at kbb
        cases kbb
      · exact HK6.o.trans ((Keeps.refl (OneB b) w6).setCell ⟨b, 4, none⟩ _ (fun _ => rfl)) (fun _ _ f => .inr f) (fun _ _ f => .inl f))
  obtain ⟨A6, c6, rfl, HB7, HO7, HG7, HK7⟩ := hcut
  obtain ⟨w7, hw7⟩ : ∃ w7, w7 = wc := ⟨_, rfl⟩
  subst hw7
  clear q0 q1 q2 q3 p4 f4
  have hcn := counts_any w7 b _ _ _ _ _ _ ops left off HB7.o ho hl
  rw [← HL2.o, ← HO2.o] at hcn
  have HCN := Sd.mk hcn
  clear hcn hl
  go_wp2_with (go_at_call 86; refine HCN.o.mono ?_; rintro e w8 ⟨rfl, hb8, hk8⟩; have HB8 := Sd.mk hb8; have HK8 := Sd.mk hk8; clear hb8 hk8)
  go_ret
  have hb8 := HB8.o
  have hk8 := HK8.o
  have hmv7 : ∀ k, (Value.slice A6 (M.length + 1) c6).ownBlock = some k → k ≠ b := fun k hk e => by
    have h1 := OwnW.knd HO7.o hk
    rw [e, knd_cells HB7.o] at h1
    cases h1
  refine ⟨rfl, A6, c6, hb8, ?_, OwnW.keeps HO7.o hk8 (fun k hk f => hmv7 k hk f), ?_, ?_⟩
  · refine (HN2.o.keeps HK7.o ?_).keeps hk8 (fun f => hbn f.symm)
    intro f
    rcases f with f | f
    · exact hbn f.symm
    · exact hmn f
  · intro k hk
    rcases HG7.o k hk with h1 | h1
    · exact .inl h1
    · exact .inr (by have := HK1.o.size; have := HK2.o.size; omega)
  · refine ((HK1.o.trans HK2.o (H := fun i => i = b ∨ i = mn ∨ mv.ownBlock = some i) (fun _ _ f => f.elim) (fun _ _ f => .inr (.inl f))).trans HK7.o (fun _ _ f => f) (fun i _ f => ?_)).trans hk8 (fun _ _ f => f) (fun _ _ f => .inl f)
    rcases f with f | f
    · exact .inl f
    · exact .inr (.inr f)
end Go.Proofs.YtdjamijbhaplgaaGreat
namespace Go.Proofs.YtdjamijbhaplgaaGreat
open Go.RowKit Go.Maps Go.Lib

set_option maxHeartbeats 8000000 in
set_option maxRecDepth 100000 in
theorem does_any (w : World) (b fb : Nat) (c0 c1 c2 c3 c4 c5 : Value) (ops : Nat) (left : Int) (off : Bool) (dv sv lv : Value) (xs : List UInt8) (L : List DoneS) (d : DoneS)
    (h : w.heap[b]? = some (.cells #[c0, c1, c2, c3, c4, c5, .int .i64 (ops : Nat), .int .i64 left, .bool off] 81 (0, 0))) (ho : ops ≤ 4611686018427387904) (hl : -1 ≤ left ∧ left ≤ 9223372036854775807)
    (hf : w.heap[fb]? = some (.cells #[dv, sv, lv] 111 (0, 0))) (hx : RowU w dv xs) (hL : LogV w lv L) (hLl : L.length ≤ 1000000000) (hp : d.pos ≤ xs.length) (hxl : xs.length ≤ 67108864) (hdl : d.p.length ≤ 70368744177664) :
    Calls Tryz.prog 80 #[.pointer (some ⟨b, 0, none⟩), .pointer (some ⟨fb, 0, none⟩), .agg (doneCells d).toArray] w fun e w' => e = .returned (.int .i64 0) ∧ ∃ dv' A' c',
      w'.heap[b]? = some (.cells #[c0, c1, c2, c3, c4, c5, .int .i64 ((ops + 1 : Nat) : Int), .int .i64 (if 0 < left then left - 1 else left), .bool (if 0 < left then decide (left = 1) else off)] 81 (0, 0)) ∧
      w'.heap[fb]? = some (.cells #[dv', sv, .slice A' (L.length + 1) c'] 111 (0, 0)) ∧ RowU w' dv' (doneOn xs d) ∧ LogV w' (.slice A' (L.length + 1) c') (L ++ [d]) ∧ Grew w lv (.slice A' (L.length + 1) c') ∧ Keeps (fun i => i = b ∨ i = fb ∨ lv.ownBlock = some i) w w' ∧ DGrew w dv dv' := by
  have hbl := (Array.getElem?_eq_some_iff.1 h).1
  have hfl := (Array.getElem?_eq_some_iff.1 hf).1
  have kb := knd_cells h
  have kf := knd_cells hf
  have hbf : b ≠ fb := fun e => by rw [e, kf] at kb; cases kb
  have hlb : lv.ownBlock ≠ some b := fun e => by rw [OwnW.knd hL e] at kb; cases kb
  have hlf : lv.ownBlock ≠ some fb := fun e => by rw [OwnW.knd hL e] at kf; cases kf
  obtain ⟨k1, n1, s1, hC⟩ : ∃ (k1 : Bool) (n1 : Int) (s1 : ByteArray), (doneCells d).toArray = #[.bool k1, .int .i64 n1, .string s1] := ⟨_, _, _, rfl⟩
  have hCl : doneCells d = [.bool k1, .int .i64 n1, .string s1] := by
    have := congrArg Array.toList hC
    simpa using this
  obtain ⟨w1, hw1⟩ : ∃ w1, w1 = w.alloc (.cells #[.bool k1, .int .i64 n1, .string s1] 153) := ⟨_, rfl⟩
  have hk1 : Keeps NoB w w1 := by rw [hw1]; exact (Keeps.refl NoB w).alloc _
  obtain ⟨A, c, rfl⟩ := hx.slice
  have HOT : Sd (∀ wx, RowU wx (.slice A xs.length c) xs → Calls Tryz.prog 74 #[.agg #[.bool k1, .int .i64 n1, .string s1], .slice A xs.length c] wx fun e w' => ∃ A' c', e = .returned (.slice A' (doneOn xs d).length c') ∧ RowU w' (.slice A' (doneOn xs d).length c') (doneOn xs d) ∧ Keeps NoB wx w' ∧ DGrew wx (.slice A xs.length c) (.slice A' (doneOn xs d).length c')) := ⟨fun wx hk => by
    rw [← hC]
    exact onto_any wx d A c xs hk hp hxl hdl⟩
  have b1 : w1.heap[w.heap.size]? = some (.cells #[.bool k1, .int .i64 n1, .string s1] 153 (0, 0)) := by rw [hw1]; exact heap_alloc_new w _
  obtain ⟨l2, hl2⟩ : ∃ l2, l2 = (if 0 < left then left - 1 else left) := ⟨_, rfl⟩
  obtain ⟨o2, ho2⟩ : ∃ o2, o2 = (if 0 < left then decide (left = 1) else off) := ⟨_, rfl⟩
  rw [← hl2, ← ho2]
  have HL2 := Sd.mk hl2
  have HO2 := Sd.mk ho2
  have H := Sd.mk h
  have HF := Sd.mk hf
  have B1 := Sd.mk b1
  have HK1 := Sd.mk hk1
  have HW1 := Sd.mk hw1
  have HLV := Sd.mk hL
  have HX := Sd.mk hx
  have HCL := Sd.mk hCl
  have HLLT : Sd (∀ k, lv.ownBlock = some k → k < w.heap.size) := ⟨fun k e => OwnW.lt hL e⟩
  have kb2 : b ≠ w.heap.size := by omega
  have kf2 : fb ≠ w.heap.size := by omega
  have HFI := Sd.mk hl
  rw [hC]
  clear h hf hx hL hp hxl hdl hC hCl hw1 hk1 b1 kb kf hl2 ho2 hl
  have q0 : w1.cell? ⟨w.heap.size, 0, none⟩ = some (.bool k1) := blk_cell B1.o 0
  have q1 : w1.cell? ⟨w.heap.size, 1, none⟩ = some (.int .i64 n1) := blk_cell B1.o 1
  have q2 : w1.cell? ⟨w.heap.size, 2, none⟩ = some (.string s1) := blk_cell B1.o 2
  have hf1 : w1.heap[fb]? = _ := HK1.o.obj HF.o (fun f => f)
  have p2 : w1.cell? ⟨fb, 2, none⟩ = some lv := blk_cell hf1 2
  have HF1 := Sd.mk hf1
  have HLV1 : Sd (LogV w1 lv L) := ⟨OwnW.keeps HLV.o HK1.o (fun _ _ f => f)⟩
  clear hf1
  go_enter Tryz.func80, Tryz.ntmps80
  go_upto_region 1 with fail
  rw [← HW1.o]
  go_cut [14] (fun sx wx => ∃ A' c', sx = .slice A' (L.length + 1) c' ∧ Sd (wx.heap[fb]? = some (.cells #[.slice A xs.length c, sv, .slice A' (L.length + 1) c'] 111 (0, 0))) ∧
    Sd (LogV wx (.slice A' (L.length + 1) c') (L ++ [d])) ∧ Sd (Grew w1 lv (.slice A' (L.length + 1) c')) ∧ Sd (Keeps (fun i => i = fb ∨ lv.ownBlock = some i) w1 wx))
  case first =>
    have p2' : (w1.alloc (.cells #[.bool k1, .int .i64 n1, .string s1] 153)).cell? ⟨fb, 2, none⟩ = some lv := ((Keeps.refl NoB w1).alloc _).cell p2 (fun f => f)
    go_region_law
      (refine step_app_w rfl _ _ 109 153 _ 3 32 rfl Tryz.underlying109 infoDone rfl (by decide) lv L.length (L.flatMap doneCells) rfl (OwnW.keeps HLV1.o ((Keeps.refl NoB w1).drew.alloc _) (fun _ _ f => f)) ⟨w1.heap.size, 0, none⟩ 1 1 [.bool k1, .int .i64 n1, .string s1] rfl rfl (cells_new w1.drew _ _) (by intro u hu; simp at hu; rcases hu with rfl | rfl | rfl <;> rfl) (by omega) (by omega) ?_
       intro A6 c6 w6 hO6 hK6 hG6
       have HO6 := Sd.mk hO6
       have HK6 : Sd (Keeps (ownB lv) w1 w6) := ⟨((Keeps.refl (ownB lv) w1).drew.alloc _).trans hK6 (fun _ _ f => f) (fun _ _ f => f)⟩
       have HG6 : Sd (Grew w1 lv (.slice A6 (L.length + 1) c6)) := ⟨fun k hk => (hG6 k hk).imp id (fun h => by simp at h; omega)⟩
       have hb6 : w6.heap[fb]? = _ := HK6.o.obj HF1.o (fun f => hlf f)
       have f46 := blk_frozen hb6 2
       have p46 : w6.cell? ⟨fb, 2, none⟩ = some lv := blk_cell hb6 2
       have HB6 := Sd.mk hb6
       have kbb := knd_cells hb6
       clear hO6 hK6 hG6 hb6)
    all_goals (
      go_wp2_with fail
      go_meet
      refine ⟨A6, c6, rfl, ⟨blk_set HB6.o 2 _⟩, ⟨?_⟩, HG6, ⟨?_⟩⟩
      · have e1 : (L ++ [d]).flatMap doneCells = L.flatMap doneCells ++ [.bool k1, .int .i64 n1, .string s1] := by rw [List.flatMap_append]; simp [HCL.o]
        have e2 : (L ++ [d]).length = L.length + 1 := by simp
        unfold LogV
        rw [e1, e2]
        refine OwnW.keeps (F := OneB fb) HO6.o ((Keeps.refl (OneB fb) w6).setCell ⟨fb, 2, none⟩ _ (fun _ => rfl)) (fun k hk f => ?_)
        cases f
        rw [OwnW.knd HO6.o hk] at kbb
        cases kbb
      · exact HK6.o.trans ((Keeps.refl (OneB fb) w6).setCell ⟨fb, 2, none⟩ _ (fun _ => rfl)) (fun _ _ f => .inr f) (fun _ _ f => .inl f))
  obtain ⟨A6, c6, rfl, HF7, HO7, HG7, HK7⟩ := hcut
  obtain ⟨w7, hw7⟩ : ∃ w7, w7 = wc := ⟨_, rfl⟩
  subst hw7
  clear q0 q1 q2 p2
  have q0 : w7.cell? ⟨w.heap.size, 0, none⟩ = some (.bool k1) := HK7.o.cell (blk_cell B1.o 0) (fun f => f.elim (fun f => kf2 f.symm) (fun f => by have := HLLT.o _ f; simp at this))
  have q1 : w7.cell? ⟨w.heap.size, 1, none⟩ = some (.int .i64 n1) := HK7.o.cell (blk_cell B1.o 1) (fun f => f.elim (fun f => kf2 f.symm) (fun f => by have := HLLT.o _ f; simp at this))
  have q2 : w7.cell? ⟨w.heap.size, 2, none⟩ = some (.string s1) := HK7.o.cell (blk_cell B1.o 2) (fun f => f.elim (fun f => kf2 f.symm) (fun f => by have := HLLT.o _ f; simp at this))
  have p0 : w7.cell? ⟨fb, 0, none⟩ = some (.slice A xs.length c) := blk_cell HF7.o 0
  have HX7 : Sd (RowU w7 (.slice A xs.length c) xs) := ⟨(HX.o.keeps HK1.o (NotU8.noB w)).keeps HK7.o (notU8_knd fun i hi => by
    rcases hi with rfl | hi
    · rw [knd_cells HF1.o]; decide
    · rw [OwnW.knd HLV1.o hi]; decide)⟩
  go_upto_region 2 with fail
  go_cut [23] (fun sx wx => ∃ A' c', sx = .slice A' (doneOn xs d).length c' ∧ Sd (wx.heap[fb]? = some (.cells #[.slice A' (doneOn xs d).length c', sv, .slice A6 (L.length + 1) c6] 111 (0, 0))) ∧
    Sd (RowU wx (.slice A' (doneOn xs d).length c') (doneOn xs d)) ∧ Sd (Keeps (OneB fb) w7 wx) ∧ Sd (DGrew w7 (.slice A xs.length c) (.slice A' (doneOn xs d).length c')))
  case first =>
    go_region_law
      (go_simp; go_at_call 74
       refine (HOT.o _ (HX7.o.keeps (Keeps.drewN (Keeps.refl NoB w7) 1) (NotU8.noB w7))).mono ?_
       rintro e w8 ⟨A8, c8, rfl, hr8, hk8, hd8⟩
       have HD8 : Sd (DGrew w7 (.slice A xs.length c) (.slice A8 (doneOn xs d).length c8)) := ⟨hd8⟩
       have HR8 := Sd.mk hr8
       have HK8 : Sd (Keeps NoB w7 w8) := ⟨hk8.undrew⟩
       have hf8 : w8.heap[fb]? = _ := HK8.o.obj HF7.o (fun f => f)
       have f08 := blk_frozen hf8 0
       have p08 : w8.cell? ⟨fb, 0, none⟩ = some (.slice A xs.length c) := blk_cell hf8 0
       have HF8 := Sd.mk hf8
       clear hr8 hk8 hf8 hd8)
    all_goals (
      go_wp2_with fail
      go_meet
      refine ⟨A8, c8, rfl, ⟨blk_set HF8.o 0 _⟩, ⟨?_⟩, ⟨?_⟩, HD8⟩
      · exact HR8.o.keeps ((Keeps.refl (OneB fb) w8).setCell ⟨fb, 0, none⟩ _ (fun _ => rfl)) (notU8_knd fun i hi => by cases hi; rw [knd_cells HF8.o]; decide)
      · exact HK8.o.trans ((Keeps.refl (OneB fb) w8).setCell ⟨fb, 0, none⟩ _ (fun _ => rfl)) (fun _ _ f => f.elim) (fun _ _ f => f))
  obtain ⟨A8, c8, rfl, HF9, HR9, HK9, HD9⟩ := hcut
  obtain ⟨w9, hw9⟩ : ∃ w9, w9 = wc := ⟨_, rfl⟩
  subst hw9
  clear q0 q1 q2 p0
  have hb9 : w9.heap[b]? = _ := HK9.o.obj (HK7.o.obj (HK1.o.obj H.o (fun f => f)) (fun f => f.elim hbf hlb)) (fun f => hbf f)
  have hcn := counts_any w9 b _ _ _ _ _ _ ops left off hb9 ho HFI.o
  rw [← HL2.o, ← HO2.o] at hcn
  have HCN := Sd.mk hcn
  clear hcn hb9
  go_wp2_with (go_at_call 86; refine HCN.o.mono ?_; rintro e w10 ⟨rfl, hb10, hk10⟩; have HB10 := Sd.mk hb10; have HK10 := Sd.mk hk10; clear hb10 hk10)
  go_ret
  have hb10 := HB10.o
  have hk10 := HK10.o
  have hl9 : LogV w9 (.slice A6 (L.length + 1) c6) (L ++ [d]) := OwnW.keeps HO7.o HK9.o (fun k hk f => by
    cases f
    have h1 := OwnW.knd HO7.o hk
    rw [knd_cells HF7.o] at h1
    cases h1)
  refine ⟨rfl, _, A6, c6, hb10, hk10.obj HF9.o (fun f => hbf f.symm), HR9.o.keeps hk10 (notU8_knd fun i hi => by cases hi; rw [knd_cells (HK9.o.obj (HK7.o.obj (HK1.o.obj H.o (fun f => f)) (fun f => f.elim hbf hlb)) (fun f => hbf f))]; decide), OwnW.keeps hl9 hk10 (fun k hk f => ?_), ?_, ?_, HD9.o.older (Nat.le_trans HK1.o.size HK7.o.size)⟩
  · cases f
    have h1 := OwnW.knd hl9 hk
    rw [knd_cells (HK9.o.obj (HK7.o.obj (HK1.o.obj H.o (fun f => f)) (fun f => f.elim hbf hlb)) (fun f => hbf f))] at h1
    cases h1
  · intro k hk
    rcases HG7.o k hk with h1 | h1
    · exact .inl h1
    · exact .inr (Nat.le_trans HK1.o.size h1)
  · refine ((HK1.o.trans HK7.o (H := fun i => i = b ∨ i = fb ∨ lv.ownBlock = some i) (fun _ _ f => f.elim) (fun _ _ f => .inr f)).trans HK9.o (fun _ _ f => f) (fun i _ f => ?_)).trans hk10 (fun _ _ f => f) (fun _ _ f => .inl f)
    exact .inr (.inl f)
end Go.Proofs.YtdjamijbhaplgaaGreat
