/- The document's file system, plainly: places of names. -/
import Derived.Deep.RegionHeld3
import Derived.Deep.RegionLaw
import Derived.Deep.DeepCutAuto
import Derived.Laws.BitsLemmas
import Derived.Test.YtdjamijbhaplgaaGreatGkao
import Derived.Test.YtdjamijbhaplgaaGreatGkaq
import Derived.Test.YtdjamijbhaplgaaGreatGkan
import Derived.Test.YtdjamijbhaplgaaGreatChain
namespace Go.Proofs.YtdjamijbhaplgaaGreat
open Go.RowKit

/-- The place of a name. -/
def atN (d : Dir) (a : List UInt8) : Option Nat := d.findIdx? (fun e => e.1 == a)
def atI (d : Dir) (a : List UInt8) : Int := match atN d a with
  | some i => (i : Int)
  | none => -1
theorem atN_cons (e : List UInt8 × Nat) (d : Dir) (a : List UInt8) : atN (e :: d) a = if e.1 = a then some 0 else (atN d a).map (· + 1) := by
  unfold atN
  rw [List.findIdx?_cons]
  by_cases h : e.1 = a
  · simp [h]
  · simp [h]
theorem atN_none {d : Dir} {a : List UInt8} (h : atN d a = none) : d.lookup a = none ∧ d.less a = d := by
  induction d with
  | nil => exact ⟨rfl, rfl⟩
  | cons e d ih =>
    rw [atN_cons] at h
    obtain ⟨k, n⟩ := e
    by_cases hk : k = a
    · rw [if_pos hk] at h; cases h
    · rw [if_neg hk] at h
      obtain ⟨h1, h2⟩ := ih (by simpa using h)
      refine ⟨?_, ?_⟩
      · rw [List.lookup_cons]
        have : (a == k) = false := by simp; exact fun e => hk e.symm
        rw [this]; exact h1
      · unfold Dir.less at *
        rw [List.filter_cons_of_pos (by simp [hk]), h2]
theorem atN_some {d : Dir} {a : List UInt8} {i : Nat} (h : atN d a = some i) : ∃ hi : i < d.length, (d[i]).1 = a ∧ d.lookup a = some (d[i]).2 := by
  induction d generalizing i with
  | nil => cases h
  | cons e d ih =>
    rw [atN_cons] at h
    obtain ⟨k, n⟩ := e
    by_cases hk : k = a
    · rw [if_pos hk] at h
      cases h
      subst hk
      exact ⟨by simp, rfl, by rw [List.lookup_cons]; simp⟩
    · rw [if_neg hk] at h
      obtain ⟨j, hj, rfl⟩ := Option.map_eq_some_iff.1 h
      obtain ⟨hi, h1, h2⟩ := ih hj
      refine ⟨by simp; exact hi, h1, ?_⟩
      rw [List.lookup_cons]
      have : (a == k) = false := by simp; exact fun e => hk e.symm
      rw [this]; exact h2
theorem atN_less {d : Dir} {a : List UInt8} {i : Nat} (h : atN d a = some i) (hd : (d.map (·.1)).Nodup) : d.less a = d.take i ++ d.drop (i + 1) := by
  induction d generalizing i with
  | nil => cases h
  | cons e d ih =>
    rw [atN_cons] at h
    obtain ⟨k, n⟩ := e
    simp only [List.map_cons, List.nodup_cons] at hd
    by_cases hk : k = a
    · rw [if_pos hk] at h
      cases h
      subst hk
      have hn : Dir.less d k = d := by
        unfold Dir.less
        rw [List.filter_eq_self]
        intro e he
        simp only [bne_iff_ne, ne_eq]
        exact fun h => hd.1 (List.mem_map.2 ⟨e, he, h⟩)
      have h0 : Dir.less ((k, n) :: d) k = Dir.less d k := by
        unfold Dir.less
        rw [List.filter_cons_of_neg (by simp)]
      rw [h0, hn]
      simp
    · rw [if_neg hk] at h
      obtain ⟨j, hj, rfl⟩ := Option.map_eq_some_iff.1 h
      have h0 : Dir.less ((k, n) :: d) a = (k, n) :: Dir.less d a := by
        unfold Dir.less
        rw [List.filter_cons_of_pos (by simp [hk])]
      rw [h0, ih hj hd.2]
      simp
theorem atN_iff {d : Dir} {a : List UInt8} : (atN d a).isSome = (d.lookup a).isSome := by
  cases h : atN d a with
  | none => rw [(atN_none h).1]
  | some i => obtain ⟨_, _, h2⟩ := atN_some h; rw [h2]; rfl
theorem atN_of {d : Dir} {a : List UInt8} {k : Nat} (hk : k < d.length) (he : (d[k]).1 = a) (hlt : ∀ j (hj : j < k), (d[j]'(by omega)).1 ≠ a) : atN d a = some k := by
  unfold atN
  rw [List.findIdx?_eq_some_iff_getElem]
  exact ⟨hk, by simp [he], fun j hj => by simp; exact hlt j hj⟩
theorem atN_no {d : Dir} {a : List UInt8} (h : ∀ j (hj : j < d.length), (d[j]).1 ≠ a) : atN d a = none := by
  unfold atN
  rw [List.findIdx?_eq_none_iff]
  intro e he
  obtain ⟨j, hj, rfl⟩ := List.getElem_of_mem he
  simpa using h j hj
theorem atI_some {d : Dir} {a : List UInt8} {i : Nat} (h : atN d a = some i) : atI d a = (i : Int) := by unfold atI; rw [h]
theorem atI_none {d : Dir} {a : List UInt8} (h : atN d a = none) : atI d a = -1 := by unfold atI; rw [h]
end Go.Proofs.YtdjamijbhaplgaaGreat
namespace Go.Proofs.YtdjamijbhaplgaaGreat
open Go.RowKit Go.Maps Go.Lib

theorem take_snoc2 {α : Type} (xs ys : List α) (k : Nat) (h1 : k < xs.length) (h2 : k < ys.length) (ht : xs.take k = ys.take k) (he : xs[k] = ys[k]) : xs.take (k + 1) = ys.take (k + 1) := by
  rw [List.take_succ_eq_append_getElem h1, List.take_succ_eq_append_getElem h2, ht, he]
instance : DecidableEq DoneS := fun a b => decidable_of_iff (a.cut = b.cut ∧ a.pos = b.pos ∧ a.p = b.p) (by cases a; cases b; simp)
theorem sOf_toL (p : List UInt8) : (sOf p).toList = p := by rw [ByteArray.toList_eq]; simp [sOf]
theorem done_guard : Tryz.prog.eqGuardType Tryz.prog.depth 153 = false := by kernel_rfl
theorem done_held : Tryz.prog.stoodInHeld 153 = false := by kernel_rfl
theorem done_und : Tryz.prog.underlying 153 = some (.struct (Tryz.prog.fieldsOf 153)) := by kernel_rfl
set_option maxRecDepth 100000 in
theorem done_neq (w : World) (x y : DoneS) : (binOp .neq 153 (.agg #[.bool x.cut, .int .i64 x.pos, .string (sOf x.p)]) (.agg #[.bool y.cut, .int .i64 y.pos, .string (sOf y.p)])).run Tryz.prog w = .ok (.bool (!decide (x = y))) w := by
  have hf : ∃ f0 f1 f2, Tryz.prog.fieldsOf 153 = #[f0, f1, f2] ∧ f0.name ≠ "_" ∧ f1.name ≠ "_" ∧ f2.name ≠ "_" ∧ f0.type = 4 ∧ f1.type = 3 ∧ f2.type = 9 ∧ f0.offset = 0 ∧ f1.offset = 1 ∧ f2.offset = 2 := ⟨_, _, _, rfl, by decide, by decide, by decide, rfl, rfl, rfl, rfl, rfl, rfl⟩
  obtain ⟨f0, f1, f2, hf, n0, n1, n2, t0, t1, t2, o0, o1, o2⟩ := hf
  have hp0 : ∀ (a b c : Value), (part 4 #[a, b, c] 0).run Tryz.prog w = .ok a w := fun a b c => by kernel_rfl
  have hp1 : ∀ (a b c : Value), (part 3 #[a, b, c] 1).run Tryz.prog w = .ok b w := fun a b c => by kernel_rfl
  have hp2 : ∀ (a b c : Value), (part 9 #[a, b, c] 2).run Tryz.prog w = .ok c w := fun a b c => by kernel_rfl
  rw [run_neq_struct, show (10000 : Nat) = 9998 + 1 + 1 from rfl, run_equalIn_struct _ _ _ _ _ done_und done_held, hf]
  have e0 := run_equalIn_bool' (P := Tryz.prog) w 9998 4 x.cut y.cut Tryz.underlying4
  have e1 := run_equalIn_int (P := Tryz.prog) w 9998 3 .i64 .i64 (x.pos : Int) (y.pos : Int) Tryz.underlying3
  have e2 := run_equalIn_string (P := Tryz.prog) w 9998 9 (sOf x.p) (sOf y.p) Tryz.underlying9
  simp only [Op.eqFields, n0, n1, n2, t0, t1, t2, o0, o1, o2, ne_eq, not_false_eq_true, if_true, Sem.run_bind, hp0, hp1, hp2, Result.andThen_ok, e0, e1, e2, sOf_toL, Sem.run_ite, Sem.run_pure]
  by_cases hc : x.cut = y.cut
  · by_cases hn : x.pos = y.pos
    · by_cases hq : x.p = y.p
      · have : x = y := by cases x; cases y; simp_all
        subst this
        simp
      · have : x ≠ y := fun e => hq (by rw [e])
        simp [hc, hn, hq, this]
    · have : x ≠ y := fun e => hn (by rw [e])
      have hn' : ((x.pos : Int) == (y.pos : Int)) = false := by simp; omega
      simp [hc, this, hn']
  · have : x ≠ y := fun e => hc (by rw [e])
    have hc' : (x.cut == y.cut) = false := by simpa using hc
    simp [this, hc']
end Go.Proofs.YtdjamijbhaplgaaGreat
namespace Go.Proofs.YtdjamijbhaplgaaGreat
open Go.RowKit Go.Maps Go.Lib

theorem ba_toList (S : ByteArray) : S.toList = S.data.toList := ByteArray.toList_eq S
set_option maxHeartbeats 1000000 in
set_option maxRecDepth 100000 in
theorem rat_any (w : World) (v : Value) (d : Dir) (h : EntV w v d) (hl : d.length ≤ 9223372036854775807) (S : ByteArray) :
    Calls Tryz.prog 76 #[v, .string S] w fun e w' => e = .returned (.int .i64 (atI d S.data.toList)) ∧ Keeps NoB w w' := by
  have H := Sd.mk h
  obtain ⟨A, c, hv, _, _⟩ := OwnW.slice h
  subst hv
  clear h
  go_enter Tryz.func76, Tryz.ntmps76
  go_wp2_with fail
  go_loopg [5] d.length (fun gk i wr => ∃ (k : Nat), gk + k = d.length ∧ i = .int .i64 k ∧ Sd (∀ j (hj : j < k) (hd : j < d.length), (d[j]).1 ≠ S.data.toList) ∧ Sd (Keeps NoB w wr))
  case atStart => exact ⟨0, by omega, rfl, ⟨fun j hj => by omega⟩, ⟨Keeps.refl _ _⟩⟩
  case round =>
    obtain ⟨k, hk, rfl, HN, HK⟩ := hrel
    by_cases hlt : k < d.length
    · have hq1 : (k : Int) < (d.length : Int) := by omega
      have hq0 : (0 : Int) ≤ (k : Int) := by omega
      obtain ⟨g, cc, e, c0, c1⟩ := EntV.get (OwnW.keeps H.o HK.o (fun _ _ f => f)) hlt
      cases e
      by_cases he : (d[k]).1 = S.data.toList
      · have HA : Sd (atI d S.data.toList = (k : Int)) := ⟨atI_some (atN_of hlt he (fun j hj => HN.o j hj (by omega)))⟩
        have hb : ((sOf (d[k]).1).toList == S.toList) = true := by rw [sOf_toL, ba_toList, he]; simp
        clear he
        go_wp2
        go_ret
        exact ⟨by rw [HA.o]; rfl, HK.o⟩
      · have hb : ((sOf (d[k]).1).toList == S.toList) = false := by rw [sOf_toL, ba_toList]; simpa using he
        have HN2 : Sd (∀ j (hj : j < k + 1) (hd : j < d.length), (d[j]).1 ≠ S.data.toList) := ⟨fun j hj hd => by
          by_cases hjk : j < k
          · exact HN.o j hjk hd
          · have : j = k := by omega
            subst this
            exact he⟩
        clear he
        go_wp2
        go_roundg (gk - 1)
        case measure => omega
        case rel => exact ⟨k + 1, by omega, by go_num, HN2, HK⟩
    · have hq1 : ¬ (k : Int) < (d.length : Int) := by omega
      have HA : Sd (atI d S.data.toList = -1) := ⟨atI_none (atN_no fun j hj => HN.o j (by omega) hj)⟩
      go_wp2
      go_ret
      exact ⟨by rw [HA.o]; rfl, HK.o⟩
theorem sOf_drop (p : List UInt8) (k n : Nat) (hn : p.length ≤ n) : (sOf p).extract k n = sOf (p.drop k) := by
  apply ByteArray.ext
  apply Array.ext'
  simp only [sOf, ByteArray.data_extract, Array.toList_extract]
  rw [List.extract_eq_take_drop, List.take_of_length_le (by rw [List.length_drop]; simp; omega)]
theorem sOf_append (p q : List UInt8) : sOf p ++ sOf q = sOf (p ++ q) := by
  apply ByteArray.ext
  simp [sOf]
set_option maxHeartbeats 1000000 in
set_option maxRecDepth 100000 in
theorem rdone_any (w : World) (p : List UInt8) (x : DoneS) (n : Nat) (hp : p.length ≤ 70368744177664) (hx : x.p.length ≤ 70368744177664) (hpos : x.pos ≤ p.length) (hn : n ≤ x.p.length) :
    Calls Tryz.prog 36 #[.string (sOf p), .agg #[.bool x.cut, .int .i64 (x.pos : Nat), .string (sOf x.p)], .int .i64 (n : Nat)] w fun e w' => e = .returned (.string (sOf (doneOn p { x with p := x.p.take n }))) ∧ Keeps NoB w w' := by
  obtain ⟨cut, pos, q⟩ := x
  dsimp only at *
  have s1 := sOf_size p
  have s2 := sOf_size q
  have f2 : (w.alloc (.cells #[.bool cut, .int .i64 (pos : Nat), .string (sOf q)] 105)).heap.size = w.heap.size + 1 := by show (w.heap.push _).size = _; simp
  have HK : Sd (Keeps NoB w (w.alloc (.cells #[.bool cut, .int .i64 (pos : Nat), .string (sOf q)] 105))) := ⟨(Keeps.refl NoB w).alloc _⟩
  have e1 : (sOf p).extract 0 pos = sOf (p.take pos) := sOf_take p pos
  have e2 : (sOf q).extract 0 n = sOf (q.take n) := sOf_take q n
  have s3 : (sOf (q.take n)).size = n := by rw [sOf_size, List.length_take]; omega
  have e3 : sOf (p.take pos) ++ sOf (q.take n) = sOf (p.take pos ++ q.take n) := sOf_append _ _
  have s4 : (sOf (p.take pos)).size = pos := by rw [sOf_size, List.length_take]; omega
  have s5 : (sOf (p.take pos ++ q.take n)).size = pos + n := by rw [sOf_size, List.length_append, List.length_take, List.length_take]; omega
  have s6 : (sOf (p.drop (pos + n))).size = p.length - (pos + n) := by rw [sOf_size, List.length_drop]
  have e5 : (sOf p).extract (pos + n) p.length = sOf (p.drop (pos + n)) := sOf_drop p (pos + n) p.length (Nat.le_refl _)
  have e6 : sOf (p.take pos ++ q.take n) ++ sOf (p.drop (pos + n)) = sOf (p.take pos ++ q.take n ++ p.drop (pos + n)) := sOf_append _ _
  cases cut with
  | true =>
    go_enter Tryz.func36, Tryz.ntmps36
    go_wp2
    go_ret
    exact ⟨rfl, HK.o⟩
  | false =>
    by_cases hc : p.length ≤ pos + n
    · have HR : Sd (sOf (p.take pos ++ q.take n) = sOf (doneOn p ⟨false, pos, q.take n⟩)) := ⟨by
        unfold doneOn
        simp only [Bool.false_eq_true, if_false]
        rw [List.drop_of_length_le (by rw [List.length_take]; omega), List.append_nil]⟩
      have hq1 : (p.length : Int) ≤ (pos : Int) + (n : Int) := by omega
      go_enter Tryz.func36, Tryz.ntmps36
      go_wp2
      go_ret
      exact ⟨by rw [← HR.o]; rfl, HK.o⟩
    · have hq1 : ¬ (p.length : Int) ≤ (pos : Int) + (n : Int) := by omega
      have HR : Sd (sOf (p.take pos ++ q.take n ++ p.drop (pos + n)) = sOf (doneOn p ⟨false, pos, q.take n⟩)) := ⟨by
        unfold doneOn
        simp only [Bool.false_eq_true, if_false]
        rw [show (q.take n).length = n by rw [List.length_take]; omega]⟩
      have hq2 : (pos : Int) + (n : Int) ≤ (p.length : Int) := by omega
      have hq3 : (0 : Int) ≤ (pos : Int) + (n : Int) := by omega
      have hq4 : ((pos : Int) + (n : Int)).toNat = pos + n := by omega
      go_enter Tryz.func36, Tryz.ntmps36
      go_wp2_with fail
      go_region
      go_wp2
      go_ret
      exact ⟨by rw [← HR.o, List.append_assoc]; rfl, HK.o.drew⟩
end Go.Proofs.YtdjamijbhaplgaaGreat
namespace Go.Proofs.YtdjamijbhaplgaaGreat
open Go.RowKit Go.Maps Go.Lib

theorem flowAt_append {P : Program} {R : World → World → Prop} {o : Oper} {a : Act} {w w' : World} {out : Value → World → Prop} (s x : Operand) (t : TypeId) (ho : o.op = .call { callee := .builtin .append, args := #[s, x], argTypes := #[t, t] })
    {vs vx v' : Value} (hs : a.eval s = vs) (hx : a.eval x = vx) (hr : (Builtin.append_ #[t, t] o.type #[vs, vx]).run P w = .ok v' w') (h : R w w' ∧ out v' w') : flowAt P o a R w out := by
  unfold flowAt execOp
  simp only [ho, resolve, invoke, builtin, Sem.run_bind, Sem.run_pure, Result.andThen_ok, List.map_toArray, List.map_cons, List.map_nil, hs, hx, hr]
  exact h
/-- append of structs onto an owned row, as an equation. -/
theorem appw_run {P : Program} {w : World} (t e ty : TypeId) (z : Value) (size bytes : Nat) (ht : P.underlying t = some (.slice e)) (hi : (P.info? e).map (fun i => (i.zero, i.size, i.bytes)) = some (some z, size, bytes)) (hzs : z.cells.size = size) (hsz : 0 < size)
    (v : Value) (n : Nat) (xs : List Value) (hown : OwnW w e size v n xs) (B : Option Addr) (m c : Nat) (news : List Value) (hl : news.length = m * size) (hnews : ∀ j u, news[j]? = some u → ∃ ad, B = some ad ∧ w.cell? (ad.add j) = some u) (h1 : ∀ u ∈ news, u.oneCell' = true)
    (h63 : n + m ≤ 9223372036854775807) (hbytes : (n + m) * bytes ≤ 140737488355328) :
    ∃ A' c' w', (Builtin.append_ #[t, t] ty #[v, .slice B m c]).run P w = .ok (.slice A' (n + m) c') w' ∧ OwnW w' e size (.slice A' (n + m) c') (n + m) (xs ++ news) ∧ Keeps (ownB v) w w' ∧ Grew w v (.slice A' (n + m) c') := by
  obtain ⟨i0, hi', hz0, hz1, hz2⟩ := info_parts hi
  cases B with
  | some ad =>
    obtain ⟨v', w', hr, h2, h3, _, h5⟩ := run_append_own_at (P := P) w 0 t ty e i0 z size bytes ht hi' hz0 hz1 hz2 hzs hsz v n xs hown ad m c news hl (fun j u hj => by obtain ⟨ad', e, hc⟩ := hnews j u hj; cases e; exact hc) h1 (by unfold maxLen; omega) hbytes (Nat.zero_le _)
    obtain ⟨A', c', rfl, _⟩ := OwnW.slice h2
    refine ⟨A', c', w', hr, h2, Keeps.of_grown h3 (fun b hb _ => hb), fun k hk => ?_⟩
    rcases h5 with h5 | h5
    · rw [h5] at hk; exact .inl hk
    · rw [h5] at hk; cases hk; exact .inr (Nat.le_refl _)
  | none =>
    have hm : news = [] := by
      cases news with
      | nil => rfl
      | cons u l => obtain ⟨ad, e, _⟩ := hnews 0 u rfl; cases e
    subst hm
    have hm0 : m = 0 := by
      rcases Nat.eq_zero_or_pos m with h | h
      · exact h
      · have := Nat.mul_pos h hsz
        simp at hl
        omega
    subst hm0
    obtain ⟨A, cc, rfl, hnc, _⟩ := OwnW.slice hown
    exact ⟨A, cc, w, run_append_none (P := P) w t ty e i0 ht hi' A n cc c hnc, by simpa using hown, Keeps.refl _ _, Grew.refl _ _⟩
theorem slice_to {P : Program} {t e : TypeId} {i : TypeInfo} (ht : P.underlying t = some (.slice e)) (hi : P.info? e = some i) (g n c k : Nat) (hk : k ≤ c) (W : World) : (Instr.slice t (.slice (some ⟨g, 0, none⟩) n c) none (some (.int .i64 (k : Int))) none).run P W = .ok (.slice (some ⟨g, 0, none⟩) k c) W := by
  have hel : P.elem t = e := by simp [Program.elem, ht]
  have hu : P.underlying t = some (.slice (P.elem t)) := by rw [hel]; exact ht
  rw [run_slice_h W t (some ⟨g, 0, none⟩) n c hu .i64 ((k : Nat) : Int) (by omega) (by omega), hel]
  simp [sizeOf, typeInfo, hi, sliced, Result.andThen, add_lit]
theorem slice_from {P : Program} {t e : TypeId} {i : TypeInfo} {size : Nat} (ht : P.underlying t = some (.slice e)) (hi : P.info? e = some i) (hs : i.size = size) (g n c k : Nat) (hk : k ≤ n) (W : World) : (Instr.slice t (.slice (some ⟨g, 0, none⟩) n c) (some (.int .i64 (k : Int))) none none).run P W = .ok (.slice (if c = k then some ⟨g, 0, none⟩ else some ⟨g, k * size, none⟩) (n - k) (c - k)) W := by
  have hel : P.elem t = e := by simp [Program.elem, ht]
  have hu : P.underlying t = some (.slice (P.elem t)) := by rw [hel]; exact ht
  rw [run_slice_l W t (some ⟨g, 0, none⟩) n c hu .i64 ((k : Nat) : Int) (by omega) (by omega), hel]
  simp [sizeOf, typeInfo, hi, sliced, Result.andThen, add_lit, hs]
theorem infoEntry : (Tryz.prog.info? 157).map (fun i => (i.zero, i.size, i.bytes)) = some (some (.agg #[.string ⟨#[]⟩, .int .i64 0]), 2, 24) := by kernel_rfl
theorem entFlat_one (l : Dir) : ∀ u ∈ l.flatMap entCells, u.oneCell' = true := fun u hu => by
  obtain ⟨t, _, hu⟩ := List.mem_flatMap.1 hu
  simp only [entCells, List.mem_cons, List.not_mem_nil, or_false] at hu
  rcases hu with rfl | rfl <;> rfl
theorem entFlat_len (l : Dir) : (l.flatMap entCells).length = l.length * 2 := flat_len (size := 2) (fun _ => rfl) l
/-- A row made anew by append([]T{}, ..). -/
theorem ownW_lit (w : World) (e : TypeId) (size : Nat) : OwnW (w.alloc (.cells #[] e)) e size (.slice (some ⟨w.heap.size, 0, none⟩) 0 0) 0 [] :=
  ⟨by simp, .inr ⟨w.heap.size, 0, #[], rfl, Nat.zero_le _, heap_alloc_new w _, Nat.le_refl _, Nat.zero_le _, by simp, by simp⟩⟩
def rwJ (W0 W1 W2 W3 : World) : Nat → World → Prop
  | 0, w => w = W0
  | 1, w => w = W1
  | 2, w => w = W2
  | _, w => w = W3
set_option maxHeartbeats 2000000 in
set_option maxRecDepth 100000 in
theorem rwithout_any (w : World) (v : Value) (d : Dir) (h : EntV w v d) (hl : d.length ≤ 100000000) (i : Nat) (hi : i < d.length) :
    Calls Tryz.prog 77 #[v, .int .i64 (i : Nat)] w fun e w' => ∃ v', e = .returned v' ∧ EntV w' v' (d.take i ++ d.drop (i + 1)) ∧ Fresh w v' ∧ Keeps NoB w w' := by
  obtain ⟨g, c, rfl, _⟩ := OwnW.at_ (cells := entCells) (size := 2) (fun _ => rfl) h hi
  have hcl := World.ownsRow.cells h (g := g) rfl
  obtain ⟨A', c', hv, hnc, _⟩ := OwnW.slice h
  cases hv
  obtain ⟨i0, hi', hz0, hz1, hz2⟩ := info_parts infoEntry
  have hs1 := fun W => slice_to (P := Tryz.prog) Tryz.underlying83 hi' g d.length c i (by omega) W
  have hs2 := fun W => slice_from (P := Tryz.prog) Tryz.underlying83 hi' hz1 g d.length c (i + 1) (by omega) W
  rw [show ((i + 1 : Nat) : Int) = (i : Int) + 1 from rfl] at hs2
  obtain ⟨B, hB⟩ : ∃ B : Option Addr, B = if c = i + 1 then some ⟨g, 0, none⟩ else some ⟨g, (i + 1) * 2, none⟩ := ⟨_, rfl⟩
  rw [← hB] at hs2
  have hwr : IntKind.i64.wrap ((i : Int) + 1) = (i : Int) + 1 := by rw [IntKind.wrap_i64]; omega
  obtain ⟨W0, hW0⟩ : ∃ W0, W0 = w.drew := ⟨_, rfl⟩
  have hk0 : Keeps NoB w W0 := by rw [hW0]; exact (Keeps.refl NoB w).drew
  have hk1 : Keeps NoB W0 (W0.alloc (.cells #[] 157)) := (Keeps.refl NoB W0).alloc _
  have hfl : ∀ j u, (d.flatMap entCells)[j]? = some u → w.cell? ⟨g, j, none⟩ = some u := fun j u hj => by
    have := hcl j u hj
    rwa [add_lit, Nat.zero_add] at this
  obtain ⟨A2, c2, W2, hr2, ho2, hk2, hg2⟩ := appw_run (P := Tryz.prog) (w := W0.alloc (.cells #[] 157)) 83 157 83 _ 2 24 Tryz.underlying83 infoEntry rfl (by decide) _ 0 [] (ownW_lit W0 _ 2)
    (some ⟨g, 0, none⟩) i c ((d.take i).flatMap entCells) (by rw [entFlat_len, List.length_take]; omega) (fun j u hj => ⟨_, rfl, by
      have hj2 : j < (d.take i).length * 2 := by
        rw [← entFlat_len]; exact (List.getElem?_eq_some_iff.1 hj).1
      rw [add_lit, Nat.zero_add]
      refine hk1.cell (hk0.cell (hfl j u ?_) (fun f => f)) (fun f => f)
      have e : d.flatMap entCells = (d.take i).flatMap entCells ++ (d.drop i).flatMap entCells := by rw [← List.flatMap_append, List.take_append_drop]
      rw [e, List.getElem?_append_left (by rw [entFlat_len]; exact hj2)]
      exact hj⟩) (entFlat_one _) (by omega) (by omega)
  rw [Nat.zero_add] at hr2 ho2 hg2
  rw [List.nil_append] at ho2
  have hk02 : Keeps NoB W0 W2 := hk1.fresh (fresh_lit W0 _ _) hk2
  obtain ⟨A3, c3, W3, hr3, ho3, hk3, hg3⟩ := appw_run (P := Tryz.prog) (w := W2) 83 157 83 _ 2 24 Tryz.underlying83 infoEntry rfl (by decide) _ i _ ho2
    B (d.length - (i + 1)) (c - (i + 1)) ((d.drop (i + 1)).flatMap entCells) (by rw [entFlat_len, List.length_drop]) (fun j u hj => by
      have hj2 : j < (d.drop (i + 1)).length * 2 := by
        rw [← entFlat_len]; exact (List.getElem?_eq_some_iff.1 hj).1
      rw [List.length_drop] at hj2
      rw [hB, if_neg (by omega)]
      refine ⟨_, rfl, ?_⟩
      rw [add_lit]
      refine hk02.cell (hk0.cell (hfl _ u ?_) (fun f => f)) (fun f => f)
      have e : d.flatMap entCells = (d.take (i + 1)).flatMap entCells ++ (d.drop (i + 1)).flatMap entCells := by rw [← List.flatMap_append, List.take_append_drop]
      have hl1 : ((d.take (i + 1)).flatMap entCells).length = (i + 1) * 2 := by rw [entFlat_len, List.length_take]; omega
      rw [e, List.getElem?_append_right (by omega), hl1, show (i + 1) * 2 + j - (i + 1) * 2 = j by omega]
      exact hj) (entFlat_one _) (by omega) (by omega)
  have hf2 : Fresh W0 (.slice A2 i c2) := (fresh_lit W0 0 0).grew (w1 := W0.alloc (.cells #[] 157)) hk1.size hg2
  have hk03 : Keeps NoB W0 W3 := hk02.fresh hf2 hk3
  have hf3 : Fresh W0 (.slice A3 (i + (d.length - (i + 1))) c3) := hf2.grew hk02.size hg3
  have HO : Sd (EntV W3 (.slice A3 (i + (d.length - (i + 1))) c3) (d.take i ++ d.drop (i + 1))) := ⟨by
    unfold EntV
    rw [List.flatMap_append, List.length_append, List.length_take, List.length_drop, Nat.min_eq_left (by omega)]
    exact ho3⟩
  have HK : Sd (Keeps NoB w W3) := ⟨hk0.then hk03⟩
  have HF : Sd (Fresh w (.slice A3 (i + (d.length - (i + 1))) c3)) := ⟨fun k hk => Nat.le_trans hk0.size (hf3 k hk)⟩
  have HW0 := Sd.mk hW0
  have hil : (i : Int) ≤ (d.length : Int) := by omega
  clear h hcl hfl hk0 hk1 hk2 hk3 hg2 hg3 ho2 ho3 hk02 hf2 hk03 hf3 hi' hz0 hz1 hz2 hW0 hB
  go_enter Tryz.func77, Tryz.ntmps77
  go_upto_region 1 with fail
  refine wp_region_chain (J := rwJ W0 (W0.alloc (.cells #[] 157)) W2 W3) (R := fun _ _ => True) [0, 4, 9] (fun _ => trivial) (by kernel_rfl) (by kernel_rfl) (by kernel_rfl) HW0.o.symm ?_
  apply chain_step 0 (.slice (some ⟨W0.heap.size, 0, none⟩) 0 0)
  · intro _; kernel_rfl
  · rfl
  · intro ss wx hJ hF
    clear hF
    have hJ' : wx = W0 := hJ
    subst hJ'
    unfold flowAt
    go_simp
    exact ⟨trivial, rfl, rfl⟩
  intro K hK
  go_simp
  refine hK _ ?_
  clear hK K
  apply chain_const
  · intro _; kernel_rfl
  · rfl
  · intro ss wx n hJ hF
    clear hF
    unfold flowAt
    go_simp
    exact ⟨trivial, rfl, hJ⟩
  intro K hK
  go_simp
  refine hK _ ?_
  clear hK K
  apply chain_const
  · intro _; kernel_rfl
  · rfl
  · intro ss wx n hJ hF
    clear hF
    unfold flowAt
    go_simp
    exact ⟨trivial, rfl, hJ⟩
  intro K hK
  go_simp
  refine hK _ ?_
  clear hK K
  apply chain_const
  · intro _; kernel_rfl
  · rfl
  · intro ss wx n hJ hF
    clear hF
    unfold flowAt
    go_simp
    exact ⟨trivial, rfl, hJ⟩
  intro K hK
  go_simp
  refine hK _ ?_
  clear hK K
  apply chain_step 1 (.slice A2 i c2)
  · intro _; kernel_rfl
  · rfl
  · intro ss wx hJ hF
    clear hF
    have hJ' : wx = W0.alloc (.cells #[] 157) := hJ
    subst hJ'
    exact flowAt_append _ _ 83 rfl rfl rfl hr2 ⟨trivial, rfl, rfl⟩
  intro K hK
  go_simp
  refine hK _ ?_
  clear hK K
  apply chain_const
  · intro _; kernel_rfl
  · rfl
  · intro ss wx n hJ hF
    clear hF
    unfold flowAt
    go_simp
    exact ⟨trivial, rfl, hJ⟩
  intro K hK
  go_simp
  refine hK _ ?_
  clear hK K
  apply chain_const
  · intro _; kernel_rfl
  · rfl
  · intro ss wx n hJ hF
    clear hF
    unfold flowAt
    go_simp
    exact ⟨trivial, rfl, hJ⟩
  intro K hK
  go_simp
  refine hK _ ?_
  clear hK K
  apply chain_const
  · intro _; kernel_rfl
  · rfl
  · intro ss wx n hJ hF
    clear hF
    unfold flowAt
    go_simp
    exact ⟨trivial, rfl, hJ⟩
  intro K hK
  go_simp
  refine hK _ ?_
  clear hK K
  apply chain_const
  · intro _; kernel_rfl
  · rfl
  · intro ss wx n hJ hF
    clear hF
    unfold flowAt
    go_simp
    exact ⟨trivial, rfl, hJ⟩
  intro K hK
  go_simp
  refine hK _ ?_
  clear hK K
  apply chain_step 2 (.slice A3 (i + (d.length - (i + 1))) c3)
  · intro _; kernel_rfl
  · rfl
  · intro ss wx hJ hF
    clear hF
    have hJ' : wx = W2 := hJ
    subst hJ'
    exact flowAt_append _ _ 83 rfl rfl rfl hr3 ⟨trivial, rfl, rfl⟩
  intro K hK
  go_simp
  refine hK _ ?_
  clear hK K
  apply chain_const
  · intro _; kernel_rfl
  · rfl
  · intro ss wx n hJ hF
    clear hF
    unfold flowAt
    go_simp
    exact ⟨trivial, rfl, hJ⟩
  intro K hK
  go_simp
  refine hK _ ?_
  clear hK K
  apply chain_nil
  intro s2 w6 hJ6 hF
  have hJ' : w6 = W3 := hJ6
  subst hJ'
  clear hF hJ6
  go_simp
  go_wp2
  go_ret
  exact ⟨_, rfl, HO.o, HF.o, HK.o⟩
end Go.Proofs.YtdjamijbhaplgaaGreat
