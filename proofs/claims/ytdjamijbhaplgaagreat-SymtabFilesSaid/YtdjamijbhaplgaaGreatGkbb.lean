/- symtab: Intern. -/
import Derived.Test.YtdjamijbhaplgaaGreatGkba
namespace Go.Proofs.YtdjamijbhaplgaaGreat
open Go.RowKit Go.Maps

theorem infoInt : (Tryz.prog.info? 3).map (fun i => (i.zero, i.size, i.bytes)) = some (some (.int .i64 0), 1, 8) := by kernel_rfl
theorem internL_snoc : ∀ (xs l : List (List UInt8)) (s : List UInt8), internL (xs ++ [s]) l = if s ∈ internL xs l then internL xs l else internL xs l ++ [s]
  | [], _, _ => rfl
  | x :: xs, l, s => by
    simp only [List.cons_append, internL]
    split
    · exact internL_snoc xs l s
    · exact internL_snoc xs _ s
theorem addedL_snoc : ∀ (xs l : List (List UInt8)) (s : List UInt8), addedL (xs ++ [s]) l = if s ∈ internL xs l then addedL xs l else addedL xs l ++ [s]
  | [], _, _ => rfl
  | x :: xs, l, s => by
    simp only [List.cons_append, internL, addedL]
    split
    · exact addedL_snoc xs l s
    · rw [addedL_snoc xs _ s]
      split <;> simp
/-- The numbers that interning tells. -/
def outL : List (List UInt8) → List (List UInt8) → List Nat
  | [], _ => []
  | s :: ss, l => numL (internL [s] l) s :: outL ss (internL [s] l)
theorem outL_snoc : ∀ (xs l : List (List UInt8)) (s : List UInt8), outL (xs ++ [s]) l = outL xs l ++ [numL (internL (xs ++ [s]) l) s]
  | [], l, s => by simp [outL]
  | x :: xs, l, s => by
    have h : internL ((x :: xs) ++ [s]) l = internL (xs ++ [s]) (internL [x] l) := by simp only [List.cons_append, internL]; split <;> rfl
    simp only [List.cons_append, outL]
    rw [outL_snoc xs _ s]
    rw [List.cons_append] at h
    rw [h]
theorem outL_len : ∀ (xs l : List (List UInt8)), (outL xs l).length = xs.length
  | [], _ => rfl
  | x :: xs, l => by simp [outL, outL_len xs]
def ints (ns : List Nat) : List Value := ns.map fun (n : Nat) => Value.int .i64 (n : Int)
theorem ints_snoc (ns : List Nat) (n : Nat) : ints (ns ++ [n]) = ints ns ++ [Value.int .i64 (n : Int)] := by simp [ints]
theorem ints_len (ns : List Nat) : (ints ns).length = ns.length := by simp [ints]
theorem IsT.keepsRow {w w' : World} {base b mb : Nat} {A : Option Addr} {c : Nat} {l : List (List UInt8)} (h : IsT w base b mb A c l) {e : TypeId} {v : Value} {vs : List Value} (ho : OwnV w e v vs) (k : Keeps (ownB v) w w') (he : e ≠ 9) (he2 : e ≠ 131) : IsT w' base b mb A c l :=
  ⟨k.obj h.blk (ho.ne_blk h.blk he2), h.own.keeps k (ho.ne h.own he), h.map.keeps k (ho.ne_map h.map), h.ne, h.sz, h.b0, h.m0, h.a0⟩
theorem OwnV.keepsTab {w w' : World} {base b mb : Nat} {A : Option Addr} {c : Nat} {l : List (List UInt8)} (h : IsT w base b mb A c l) {e : TypeId} {v : Value} {vs : List Value} (ho : OwnV w e v vs) (k : Keeps (TabB b mb (.slice A l.length c)) w w') (he : e ≠ 9) (he2 : e ≠ 131) : OwnV w' e v vs :=
  ho.keeps k (fun i hi f => by
    rcases f with f | f | f
    · subst f; exact ho.ne_blk h.blk he2 hi
    · subst f; exact ho.ne_map h.map hi
    · exact h.own.ne ho (fun e' => he e'.symm) i hi f)
theorem Keeps.tab {w w1 w2 : World} {b mb : Nat} {v v1 : Value} (h : Keeps (TabB b mb v) w w1) (g : Grew w v v1) (k : Keeps (TabB b mb v1) w1 w2) : Keeps (TabB b mb v) w w2 :=
  h.trans k (fun _ _ f => f) (fun i hi f => by
    rcases f with f | f | f
    · exact .inl f
    · exact .inr (.inl f)
    · rcases g i f with h1 | h1
      · exact .inr (.inr h1)
      · omega)
theorem Keeps.tabFresh {w w1 w2 : World} {b mb : Nat} {v u : Value} (h : Keeps (TabB b mb v) w w1) (f : Fresh w u) (k : Keeps (ownB u) w1 w2) : Keeps (TabB b mb v) w w2 := h.fresh f k
/-- The map of new symbols: its keys are l. -/
def FreshS (w : World) (b : Nat) (l : List (List UInt8)) : Prop := ∃ D : DataW Unit, w.ownsMap Tryz.prog 9 (plainElem (H := Unit) Tryz.prog 4) b (Maps.size D) D ∧ Maps.size D = l.length ∧ ∀ s, Maps.has D (.string s) = decide (s ∈ l)
theorem FreshS.made (w : World) : FreshS (w.alloc (.map #[] 0)) w.heap.size [] := ⟨.map [], World.ownsMap_made _ _ _ _, rfl, fun s => by simp [Maps.has]⟩
theorem FreshS.put {w : World} {b : Nat} {l : List (List UInt8)} (h : FreshS w b l) (S : ByteArray) (hS : S.size ≤ 9223372036854775807) (hl : l.length < 9223372036854775807) :
    ∃ w', (Instr.mapUpdate 142 (.map (some b)) (.string S) (.bool true)).run Tryz.prog w = .ok () w' ∧ FreshS w' b (if S.data.toList ∈ l then l else l ++ [S.data.toList]) ∧ Keeps (OneB b) w w' := by
  obtain ⟨D, hown, hsz, hh⟩ := h
  have hkey := Go.WideMaps.keyOf_string_mk (P := Tryz.prog) Tryz.underlying9 (s := S) (by unfold maxLen; exact hS)
  have hv : plainElem (H := Unit) Tryz.prog 4 (.bool true) = some (.lit (.bool true), []) := plainElem_bool Tryz.underlying4 _
  obtain ⟨w', hrun, hown', hg⟩ := hown.update keyS Tryz.underlying142 (by unfold maxLen; omega) hkey hv
  have hm := ownsMap_tidy keyS hown
  refine ⟨w', hrun, ⟨_, tight hown', ?_, fun x => ?_⟩, Keeps.of_grown hg (fun b' hb _ => by cases hb; rfl)⟩
  · rw [size_put hm, hsz, hh]
    by_cases hx : S.data.toList ∈ l
    · simp [hx]
    · simp [hx]
  · by_cases hx : x = S.data.toList
    · subst hx
      rw [has_put_same hm.isMap (by simp [WideAt.IsKeyLit])]
      by_cases hx : S.data.toList ∈ l
      · simp [hx]
      · simp [hx]
    · have hne : Lit.string x ≠ Lit.string S.data.toList := fun e => hx (by injection e)
      rw [has_put_other hne, hh]
      by_cases hs : S.data.toList ∈ l
      · simp [hs]
      · simp [hs, hx]
theorem FreshS.len {w : World} {b : Nat} {l : List (List UInt8)} (h : FreshS w b l) : ∀ w' : World, w'.heap = w.heap → ∀ ty, (Builtin.len_ #[142] ty #[.map (some b)]).run Tryz.prog w' = .ok (.int .i64 (l.length : Nat)) w' := by
  obtain ⟨D, hown, hsz, _⟩ := h
  intro w' hw ty
  have : w'.ownsMap Tryz.prog 9 (plainElem (H := Unit) Tryz.prog 4) b (Maps.size D) D := by
    obtain ⟨es, clock, hb, r⟩ := hown
    exact ⟨es, clock, by rw [hw]; exact hb, r⟩
  rw [this.len Tryz.underlying142 ty, hsz]
theorem addedL_cons (s : List UInt8) (xs l : List (List UInt8)) : addedL (s :: xs) l = if s ∈ l then addedL xs l else s :: addedL xs (l ++ [s]) := rfl
theorem internL_cons (s : List UInt8) (xs l : List (List UInt8)) : internL (s :: xs) l = if s ∈ l then internL xs l else internL xs (l ++ [s]) := rfl
theorem addedL_append : ∀ (a b l : List (List UInt8)), addedL (a ++ b) l = addedL a l ++ addedL b (internL a l)
  | [], b, l => by simp [addedL, internL]
  | s :: a, b, l => by
    rw [List.cons_append, addedL_cons, addedL_cons, internL_cons]
    by_cases h : s ∈ l
    · rw [if_pos h, if_pos h, if_pos h]
      exact addedL_append a b l
    · rw [if_neg h, if_neg h, if_neg h, addedL_append a b]
      rfl
theorem internL_take_len (ss l : List (List UInt8)) (k : Nat) : (internL (ss.take k) l).length ≤ l.length + (addedL ss l).length := by
  rw [internL_eq, List.length_append]
  have h := addedL_append (ss.take k) (ss.drop k) l
  rw [List.take_append_drop] at h
  rw [h, List.length_append]
  omega
def InternPost (w : World) (base b mb : Nat) (A : Option Addr) (c : Nat) (ss l : List (List UInt8)) (e : Ending) (w' : World) : Prop :=
  Keeps (TabB b mb (.slice A l.length c)) w w' ∧ ((¬ (∀ s ∈ ss, mayL s = true) ∧ e = .returned (.tuple #[.slice none 0 0, .slice none 0 0, .int .i64 50]) ∧ w = w') ∨
    ((∀ s ∈ ss, mayL s = true) ∧ ∃ A' c' Ao co Ab cb, e = .returned (.tuple #[.slice Ao ss.length co, .slice Ab ((addedL ss l).flatMap frameL).length cb, .int .i64 0]) ∧ IsT w' base b mb A' c' (internL ss l) ∧
      OwnV w' 3 (.slice Ao ss.length co) (ints (outL ss l)) ∧ OwnV w' 5 (.slice Ab ((addedL ss l).flatMap frameL).length cb) (bvs ((addedL ss l).flatMap frameL)) ∧ Fresh w (.slice Ao ss.length co) ∧ Fresh w (.slice Ab ((addedL ss l).flatMap frameL).length cb) ∧ Grew w (.slice A l.length c) (.slice A' (internL ss l).length c')))

/-- The same, with a table that may have no room. -/
def InternAll (w : World) (base b mb : Nat) (A : Option Addr) (c : Nat) (ss l : List (List UInt8)) (e : Ending) (w' : World) : Prop :=
  Keeps (TabB b mb (.slice A l.length c)) w w' ∧ ((¬ (∀ s ∈ ss, mayL s = true) ∧ e = .returned (.tuple #[.slice none 0 0, .slice none 0 0, .int .i64 50]) ∧ w = w') ∨
    ((∀ s ∈ ss, mayL s = true) ∧ 65536 < l.length + (addedL ss l).length ∧ e = .returned (.tuple #[.slice none 0 0, .slice none 0 0, .int .i64 6]) ∧ Keeps NoB w w') ∨
    ((∀ s ∈ ss, mayL s = true) ∧ l.length + (addedL ss l).length ≤ 65536 ∧ ∃ A' c' Ao co Ab cb, e = .returned (.tuple #[.slice Ao ss.length co, .slice Ab ((addedL ss l).flatMap frameL).length cb, .int .i64 0]) ∧ IsT w' base b mb A' c' (internL ss l) ∧
      OwnV w' 3 (.slice Ao ss.length co) (ints (outL ss l)) ∧ OwnV w' 5 (.slice Ab ((addedL ss l).flatMap frameL).length cb) (bvs ((addedL ss l).flatMap frameL)) ∧ Fresh w (.slice Ao ss.length co) ∧ Fresh w (.slice Ab ((addedL ss l).flatMap frameL).length cb) ∧ Grew w (.slice A l.length c) (.slice A' (internL ss l).length c')))

set_option maxHeartbeats 8000000 in
set_option maxRecDepth 100000 in
theorem intern_all (w : World) (base b mb : Nat) (A : Option Addr) (c : Nat) (l : List (List UInt8)) (h : IsT w base b mb A c l) (hbase : base ≤ w.heap.size) (A1 : Option Addr) (c1 : Nat) (ss : List (List UInt8)) (hv : VRd w A1 (strs ss))
    (hoff : 0 < ss.length → ∀ b1 o1 s1, A1 = some ⟨b1, o1, s1⟩ → ¬ TabB b mb (.slice A l.length c) b1) (hsz : ∀ s ∈ ss, s.length ≤ 140737488355328) (hl : l.length ≤ 65536) (hsl : ss.length ≤ 65536) :
    Calls Tryz.prog 27 #[.pointer (some ⟨b, 0, none⟩), .slice A1 ss.length c1] w (InternAll w base b mb A c ss l) := by
  have HC := Sd.mk (cff_any w A1 c1 ss hv (by omega))
  have H := Sd.mk h
  have HV := Sd.mk hv
  have HOFF := Sd.mk hoff
  have HSZ := Sd.mk hsz
  clear h hv hoff hsz
  have hmm := @run_makeMap Tryz.prog
  go_enter Tryz.func27, Tryz.ntmps27
  go_wp2_with fail
  refine HC.o.mono ?_
  clear HC
  rintro e w' ⟨bb, rfl, rfl, hbb⟩
  have HBB := Sd.mk hbb
  clear hbb
  cases bb with
  | true =>
    go_wp2
    go_ret3
    exact ⟨Keeps.refl _ _, .inl ⟨(fun h => by have := HBB.o.2 h; cases this), rfl, rfl⟩⟩
  | false =>
  have HALL := Sd.mk (HBB.o.1 rfl)
  clear HBB
  have HF0 : Sd (FreshS (w.alloc (.map #[] 0)) w.heap.size (addedL (ss.take 0) l)) := ⟨FreshS.made w⟩
  have HBD := Sd.mk (internL_take_len ss l)
  have HADD := Sd.mk (addedL_len ss l)
  go_wp2_with fail
  go_loopg [27] ss.length (fun gk i wr => ∃ k : Nat, gk + k = ss.length ∧ i = .int .i64 k ∧ Sd (FreshS wr w.heap.size (addedL (ss.take k) l)) ∧ Sd (Keeps NoB w wr))
  case atStart => exact ⟨0, by omega, rfl, HF0, ⟨(Keeps.refl NoB w).alloc _⟩⟩
  case round =>
    clear HF0
    obtain ⟨k, hk, rfl, HF, HK⟩ := hrel
    by_cases hlt : k < ss.length
    · have hq : (k : Int) < (ss.length : Int) := by omega
      obtain ⟨b1, o1, rfl, hc⟩ := HV.o k (by rw [strs_len]; exact hlt)
      have hc2 : wr.cell? ⟨b1, o1 + k, none⟩ = some (.string (sOf ss[k])) := by rw [HK.o.cell hc (fun f => f)]; simp [strs]
      have h1 : wr.cell? ⟨b, 1, none⟩ = some (.map (some mb)) := blk_cell (H.o.kept HK.o).blk 1
      have hS := HSZ.o _ (List.getElem_mem hlt)
      have hss : (sOf ss[k]).size = ss[k].length := sOf_size _
      rw [← hss] at hS
      have HNX : Sd (addedL (ss.take (k + 1)) l = if (sOf ss[k]).data.toList ∈ l ++ addedL (ss.take k) l then addedL (ss.take k) l else addedL (ss.take k) l ++ [(sOf ss[k]).data.toList]) := ⟨by
        rw [List.take_succ_eq_append_getElem hlt, addedL_snoc, internL_eq]
        rfl⟩
      clear hc hss
      generalize sOf ss[k] = S0 at *
      have hlook := (H.o.kept HK.o).map.look S0 (by omega)
      generalize numL l S0.data.toList = nn at *
      by_cases hin : S0.data.toList ∈ l
      · rw [decide_eq_true hin] at hlook
        have HF2 : Sd (FreshS wr w.heap.size (addedL (ss.take (k + 1)) l)) := ⟨by
          rw [HNX.o, if_pos (List.mem_append_left _ hin)]
          exact HF.o⟩
        clear hin
        go_wp2_with fail
        go_roundg (gk - 1)
        case measure => omega
        case rel => exact ⟨k + 1, by omega, by go_num, HF2, HK⟩
      · rw [decide_eq_false hin] at hlook
        have hfl : (addedL (ss.take k) l).length < 9223372036854775807 := by
          have := addedL_len (ss.take k) l
          rw [List.length_take] at this
          omega
        obtain ⟨w3, hrun, hF3, hK3⟩ := HF.o.put S0 (by omega) hfl
        have hF3 : FreshS w3 w.heap.size (addedL (ss.take (k + 1)) l) := by
          rw [HNX.o]
          by_cases hx : S0.data.toList ∈ addedL (ss.take k) l
          · rw [if_pos (List.mem_append_right _ hx)]
            rw [if_pos hx] at hF3
            exact hF3
          · rw [if_neg (fun e => (List.mem_append.1 e).elim hin hx)]
            rw [if_neg hx] at hF3
            exact hF3
        clear hin
        have HF3 := Sd.mk hF3
        have HK3 : Sd (Keeps NoB w w3) := ⟨HK.o.trans hK3 (fun _ _ f => f) (fun i hi f => by cases f; omega)⟩
        clear hF3 hK3
        go_wp2_with fail
        go_roundg (gk - 1)
        case measure => omega
        case rel => exact ⟨k + 1, by omega, by go_num, HF3, HK3⟩
    · have hq : ¬ (k : Int) < (ss.length : Int) := by omega
      have hke0 : k = ss.length := by omega
      have hF := HF.o
      rw [hke0, List.take_length] at hF
      have hlen := hF.len
      obtain ⟨m, hm⟩ : ∃ m, m = (addedL ss l).length := ⟨_, rfl⟩
      rw [← hm] at hlen
      have hlenN : ∀ n ty, (Builtin.len_ #[142] ty #[.map (some w.heap.size)]).run Tryz.prog (wr.drewN n) = .ok (.int .i64 (m : Nat)) (wr.drewN n) := fun n ty => hlen (wr.drewN n) rfl ty
      have h0 : wr.cell? ⟨b, 0, none⟩ = some (.slice A l.length c) := blk_cell (H.o.kept HK.o).blk 0
      have hml : m ≤ ss.length := by have := HADD.o; omega
      have HM := Sd.mk hm
      clear hF hke0 hm
      by_cases hfull : 65536 < l.length + m
      · have hgt : decide ((65536 : Int) < (l.length : Int) + (m : Int)) = true := by simp; omega
        clear hlen hlt
        go_wp2_with fail
        go_quiet (fail)
        go_wp2_with fail
        go_ret3
        exact ⟨(HK.o.drewN _).mono (fun _ _ f => f.elim), .inr (.inl ⟨HALL.o, by rw [← HM.o]; exact hfull, rfl, HK.o.drewN _⟩)⟩
      have hgt : decide ((65536 : Int) < (l.length : Int) + (m : Int)) = false := by simp; omega
      have HNF : Sd (l.length + (addedL ss l).length ≤ 65536) := ⟨by rw [← HM.o]; omega⟩
      clear hlen hlt
      go_wp2_with fail
      go_quiet (fail)
      have HK0 : Sd (Keeps NoB w (wr.drewN nq)) := ⟨HK.o.drewN nq⟩
      have HT0 : Sd (IsT (wr.drewN nq) base b mb A c l) := ⟨H.o.kept HK0.o⟩
      clear HF HK hlenN h0 hgt hml hk hfull
      generalize wr.drewN nq = w0 at *
      go_wp2_with fail
      go_loopg [12, 13, 56] ss.length (fun gk o v i wr => ∃ (k cA co cb : Nat) (lk : List (List UInt8)) (ys : List UInt8) (A' Ao Ab : Option Addr), gk + k = ss.length ∧ i = .int .i64 k ∧ o = .slice Ao k co ∧ v = .slice Ab ys.length cb ∧ ys.length ≤ 73 * k ∧ lk.length ≤ 65536 ∧ Sd (lk = internL (ss.take k) l) ∧ Sd (ys = (addedL (ss.take k) l).flatMap frameL) ∧
        Sd (IsT wr base b mb A' cA lk) ∧ Sd (OwnV wr 3 (.slice Ao k co) (ints (outL (ss.take k) l))) ∧ Sd (OwnV wr 5 (.slice Ab ys.length cb) (bvs ys)) ∧ Sd (Fresh w (.slice Ao k co)) ∧ Sd (Fresh w (.slice Ab ys.length cb)) ∧ Sd (Keeps (TabB b mb (.slice A l.length c)) w wr) ∧ Sd (Grew w (.slice A l.length c) (.slice A' lk.length cA)))
      case atStart => exact ⟨0, c, 0, 0, l, [], A, none, none, by omega, rfl, rfl, rfl, by simp, by omega, ⟨by simp [internL]⟩, ⟨by simp [addedL]⟩, HT0, ⟨by simp [outL, ints], .inl ⟨rfl, by simp [outL, ints]⟩⟩, ⟨(Own.nil _ 0).v⟩, ⟨fun k hk => by simp [Value.ownBlock] at hk⟩, ⟨fun k hk => by simp [Value.ownBlock] at hk⟩, ⟨HK0.o.mono (fun _ _ f => f.elim)⟩, ⟨Grew.refl _ _⟩⟩
      case round =>
        clear HT0
        obtain ⟨k, cA, co, cb, lk, ys, A', Ao, Ab, hk, rfl, rfl, rfl, hyl, hlk, HLK, HY, HT, HO, HB, HFO, HFB, HK, HG⟩ := hrel
        by_cases hlt : k < ss.length
        · have hq : (k : Int) < (ss.length : Int) := by omega
          obtain ⟨b1, o1, rfl, hc⟩ := HV.o k (by rw [strs_len]; exact hlt)
          have hc2 : wr.cell? ⟨b1, o1 + k, none⟩ = some (.string (sOf ss[k])) := by rw [HK.o.cell hc (HOFF.o (by omega) _ _ _ rfl)]; simp [strs]
          have h1 : wr.cell? ⟨b, 1, none⟩ = some (.map (some mb)) := blk_cell HT.o.blk 1
          have hmay := Sd.mk (HALL.o _ (List.getElem_mem hlt))
          have hS := mayL_len hmay.o
          have htk : Sd (ss.take (k + 1) = ss.take k ++ [ss[k]]) := ⟨List.take_succ_eq_append_getElem hlt⟩
          obtain ⟨s, hs⟩ : ∃ s, s = ss[k] := ⟨_, rfl⟩
          rw [← hs] at hmay hS htk hc2
          clear hc hs
          obtain ⟨S0, hS0⟩ : ∃ S0, S0 = sOf s := ⟨_, rfl⟩
          have hSd : Sd (S0.data.toList = s) := ⟨by rw [hS0]; rfl⟩
          have hSz : S0.size = s.length := by rw [hS0, sOf_size]
          rw [← hS0] at hc2
          clear hS0
          have hS2 : S0.size ≤ 64 := by omega
          have hlook := HT.o.map.look S0 (by omega)
          rw [hSd.o] at hlook
          have HSz := Sd.mk hSz
          clear hSz
          have hfl := frameL_len s hS
          by_cases hin : s ∈ lk
          · have hnext : Sd (internL (ss.take (k + 1)) l = lk ∧ addedL (ss.take (k + 1)) l = addedL (ss.take k) l ∧ outL (ss.take (k + 1)) l = outL (ss.take k) l ++ [numL lk s]) := ⟨by
              have e1 : internL (ss.take (k + 1)) l = lk := by rw [htk.o, internL_snoc, ← HLK.o, if_pos hin]
              refine ⟨e1, by rw [htk.o, addedL_snoc, ← HLK.o, if_pos hin], ?_⟩
              rw [← e1, htk.o, outL_snoc]⟩
            rw [decide_eq_true hin] at hlook
            have hlook1 := HT.o.map.look1 S0 (by omega)
            rw [hSd.o] at hlook1
            obtain ⟨nn, hnn⟩ : ∃ nn, nn = numL lk s := ⟨_, rfl⟩
            rw [← hnn] at hlook hlook1 hnext
            have hln : (ints (outL (ss.take k) l)).length = k := by rw [ints_len, outL_len, List.length_take]; omega
            have HLN := Sd.mk hln
            clear hin hnn hln
            go_wp2_with (at_builtin; go_must (refine app_row (o := ⟨some 86, _, _, _, _, _⟩) rfl _ _ 55 3 (.int .i64 0) 8 rfl Tryz.underlying55 infoInt rfl (.slice Ao k co) (ints (outL (ss.take k) l)) rfl (HO.o.kept ((Keeps.refl NoB wr).alloc _)) ⟨_, 0, none⟩ 1 1 [.int .i64 (nn : Nat)] rfl rfl (fun _ _ hj => new_one hj) one1 (by rw [HLN.o]; omega) (by rw [HLN.o]; omega) ?_); intro A5 c5 w5 HO5 HK5 HG5; rw [HLN.o] at HO5 HG5 ⊢; have HQ := Sd.mk (And.intro HO5 (And.intro HK5 HG5)); clear HO5 HK5 HG5)
            go_roundg (gk - 1)
            case measure => omega
            case rel =>
              obtain ⟨HO5, HK5, HG5⟩ := HQ.o
              have hK5 : Keeps (ownB (.slice Ao k co)) wr w5 := HK5.undoalloc
              refine ⟨k + 1, cA, c5, cb, lk, ys, A', A5, Ab, by omega, by go_num, rfl, rfl, by omega, by omega, ⟨hnext.o.1.symm⟩, ⟨by rw [hnext.o.2.1]; exact HY.o⟩, ⟨HT.o.keepsRow HO.o hK5 (by decide) (by decide)⟩, ⟨?_⟩, ⟨HB.o.keeps hK5 (HO.o.ne HB.o (by decide))⟩, ⟨HFO.o.grew HK.o.size HG5.undoalloc⟩, HFB, ⟨HK.o.fresh HFO.o hK5⟩, HG⟩
              rw [hnext.o.2.2, ints_snoc]
              exact HO5
          · have hnext : Sd (internL (ss.take (k + 1)) l = lk ++ [s] ∧ addedL (ss.take (k + 1)) l = addedL (ss.take k) l ++ [s] ∧ outL (ss.take (k + 1)) l = outL (ss.take k) l ++ [lk.length]) := ⟨by
              have e1 : internL (ss.take (k + 1)) l = lk ++ [s] := by rw [htk.o, internL_snoc, ← HLK.o, if_neg hin]
              refine ⟨e1, by rw [htk.o, addedL_snoc, ← HLK.o, if_neg hin], ?_⟩
              have e2 : numL (lk ++ [s]) s = lk.length := by rw [numL_snoc _ _ _ hin, if_pos rfl]
              rw [← e2, ← e1, htk.o, outL_snoc]⟩
            rw [decide_eq_false hin] at hlook
            have hgn : numL lk s = numL lk s := rfl
            have hln : (ints (outL (ss.take k) l)).length = k := by rw [ints_len, outL_len, List.length_take]; omega
            have HLN := Sd.mk hln
            have HAD := Sd.mk (tadd_full wr base b mb A' cA lk HT.o S0 hS2 (by rw [hSd.o]; exact hin) (by omega) (Nat.le_trans hbase HK.o.size))
            rw [hSd.o] at HAD
            have HFRM := Sd.mk (fun w' => tframe_any w' S0 (by omega))
            rw [hSd.o] at HFRM
            have hlook2 : Sd (∀ w' A9 c9, IsT w' base b mb A9 c9 (lk ++ [s]) → (Instr.lookup 78 (.map (some mb)) (.string S0) false).run Tryz.prog w' = .ok (.int .i64 (lk.length : Nat)) w') := ⟨fun w' A9 c9 hT => by
              have h := hT.map.look1 S0 (by omega)
              rw [hSd.o, numL_snoc _ _ _ hin, if_pos rfl] at h
              exact h⟩
            generalize numL lk s = nn at *
            obtain ⟨X, hX⟩ : ∃ X, X = frameL s := ⟨_, rfl⟩
            rw [← hX] at HFRM hfl
            have HX := Sd.mk hX
            clear hin hln hgn hX
            go_wp2_with fail
            refine HAD.o.mono ?_
            clear HAD hlook h1 hc2
            rintro e w3 ⟨rfl, ⟨A3, c3, hT3, hG3⟩, hK3⟩
            have HT3 := Sd.mk hT3
            have HK3 := Sd.mk (HK.o.tab HG.o hK3)
            have HG3 := Sd.mk (HG.o.grow HK.o hG3)
            have HB3 := Sd.mk (HB.o.keepsTab HT.o hK3 (by decide) (by decide))
            have HO3 := Sd.mk (HO.o.keepsTab HT.o hK3 (by decide) (by decide))
            clear hT3 hK3 hG3
            go_wp2_with fail
            refine (HFRM.o w3).mono ?_
            clear HFRM
            rintro e w4 ⟨A4, c4, rfl, hO4, _, hK4⟩
            have HX4 := Sd.mk hO4
            have HK34 := Sd.mk hK4
            have HK4 : Sd (Keeps (TabB b mb (.slice A l.length c)) w w4) := ⟨HK3.o.then hK4⟩
            have HB4 := Sd.mk (HB3.o.kept hK4)
            have HO4 := Sd.mk (HO3.o.kept hK4)
            have HT4 := Sd.mk (HT3.o.kept hK4)
            clear hO4 hK4
            have hBL := bvs_length ys
            have HBL := Sd.mk hBL
            clear hBL
            go_wp2_with (first
              | (at_builtin
                 refine app_any (o := ⟨some 77, _, _, _, _, _⟩) rfl _ _ 49 5 (.int .u8 0) 1 rfl Tryz.underlying49 infoU8' rfl (.slice Ab ys.length cb) (bvs ys) rfl HB4.o A4 X.length c4 (bvs X) rfl (bvs_length X) (rd_vrd HX4.o.bts.rd.2.2.2.2.2) (bvs_one X) (by rw [bvs_length]; omega) (by rw [bvs_length]; omega) ?_
                 intro A6 c6 w6 HO6 HK6 HG6
                 obtain ⟨zs, hzs⟩ : ∃ zs, zs = ys ++ X := ⟨_, rfl⟩
                 rw [show (bvs ys).length + X.length = zs.length by rw [bvs_length, hzs, List.length_append]] at HO6 HG6 ⊢
                 rw [← bvs_append, ← hzs] at HO6
                 have hzl : zs.length ≤ 73 * k + 73 := by rw [hzs, List.length_append]; omega
                 have HZ := Sd.mk hzs
                 have HT6 := Sd.mk (HT4.o.keepsRow HB4.o HK6 (by decide) (by decide))
                 have h16 : w6.cell? ⟨b, 1, none⟩ = some (.map (some mb)) := blk_cell HT6.o.blk 1
                 have hl6 := hlook2.o w6 _ _ HT6.o
                 have HO6i := Sd.mk (HO4.o.keeps HK6 (HB4.o.ne HO4.o (by decide)))
                 have HP := Sd.mk (And.intro HO6 (And.intro HK6 HG6))
                 clear HO6 HK6 HG6 hzs)
              | (at_builtin
                 refine app_row (o := ⟨some 86, _, _, _, _, _⟩) rfl _ _ 55 3 (.int .i64 0) 8 rfl Tryz.underlying55 infoInt rfl (.slice Ao k co) (ints (outL (ss.take k) l)) rfl (HO6i.o.kept ((Keeps.refl NoB w6).alloc _)) ⟨_, 0, none⟩ 1 1 [.int .i64 (lk.length : Nat)] rfl rfl (fun _ _ hj => new_one hj) one1 (by rw [HLN.o]; omega) (by rw [HLN.o]; omega) ?_
                 intro A5 c5 w5 HO5 HK5 HG5
                 rw [HLN.o] at HO5 HG5 ⊢
                 have HQ := Sd.mk (And.intro HO5 (And.intro HK5 HG5))
                 clear HO5 HK5 HG5))
            go_roundg (gk - 1)
            case measure => omega
            case rel =>
              obtain ⟨HO5, HK5, HG5⟩ := HQ.o
              obtain ⟨HO6, HK6, HG6⟩ := HP.o
              have hK5 : Keeps (ownB (.slice Ao k co)) w6 w5 := HK5.undoalloc
              have hk6 : Keeps (TabB b mb (.slice A l.length c)) w w6 := HK4.o.fresh HFB.o HK6
              refine ⟨k + 1, c3, c5, c6, lk ++ [s], zs, A3, A5, A6, by omega, by go_num, rfl, rfl, by omega, by rw [← hnext.o.1]; exact Nat.le_trans (HBD.o _) HNF.o, ⟨hnext.o.1.symm⟩, ⟨by rw [hnext.o.2.1, flatMap_snoc, ← HY.o, HZ.o, HX.o]⟩, ⟨HT6.o.keepsRow HO6i.o hK5 (by decide) (by decide)⟩, ⟨?_⟩, ⟨HO6.keeps hK5 (HO6i.o.ne HO6 (by decide))⟩, ⟨HFO.o.grew hk6.size HG5.undoalloc⟩, ⟨HFB.o.grew HK4.o.size HG6⟩, ⟨hk6.fresh HFO.o hK5⟩, HG3⟩
              rw [hnext.o.2.2, ints_snoc]
              exact HO5
        · have hq : ¬ (k : Int) < (ss.length : Int) := by omega
          have hke : k = ss.length := by omega
          subst hke
          rw [List.take_length] at HLK HY HO
          go_wp2
          go_ret3
          have e1 := HLK.o
          have e2 := HY.o
          subst e1 e2
          exact ⟨HK.o, .inr (.inr ⟨HALL.o, HNF.o, A', cA, Ao, co, Ab, cb, rfl, HT.o, HO.o, HB.o, HFO.o, HFB.o, HG.o⟩)⟩
theorem intern_any (w : World) (base b mb : Nat) (A : Option Addr) (c : Nat) (l : List (List UInt8)) (h : IsT w base b mb A c l) (hbase : base ≤ w.heap.size) (A1 : Option Addr) (c1 : Nat) (ss : List (List UInt8)) (hv : VRd w A1 (strs ss))
    (hoff : 0 < ss.length → ∀ b1 o1 s1, A1 = some ⟨b1, o1, s1⟩ → ¬ TabB b mb (.slice A l.length c) b1) (hsz : ∀ s ∈ ss, s.length ≤ 140737488355328) (hl : l.length + ss.length ≤ 65536) :
    Calls Tryz.prog 27 #[.pointer (some ⟨b, 0, none⟩), .slice A1 ss.length c1] w (InternPost w base b mb A c ss l) := by
  refine (intern_all w base b mb A c l h hbase A1 c1 ss hv hoff hsz (by omega) (by omega)).mono fun e w' ⟨hk, hh⟩ => ⟨hk, ?_⟩
  rcases hh with hh | ⟨_, h1, _⟩ | ⟨h1, _, h3⟩
  · exact .inl hh
  · have := addedL_len ss l
    omega
  · exact .inr ⟨h1, h3⟩
end Go.Proofs.YtdjamijbhaplgaaGreat
namespace Go.Proofs.YtdjamijbhaplgaaGreat
open Go.RowKit Go.Maps

set_option maxHeartbeats 400000 in
theorem num_law (w : World) (a : Int) : Calls Tryz.prog 12 #[.int .i64 a] w fun e w' => e = .returned (.int .i64 a) ∧ w = w' := by
  go_enter Tryz.func12, Tryz.ntmps12
  go_wp2
  go_ret
  exact ⟨rfl, rfl⟩
theorem many_vrd {w : World} {vs : List Value} {e : TypeId} {g : Nat} (hg : g = w.heap.size) : VRd (w.alloc (.cells vs.toArray e)) (some ⟨g, 0, none⟩) vs := fun i hi => by
  subst hg
  exact ⟨w.heap.size, 0, rfl, by rw [blk_cell (heap_alloc_new w _)]; simp [hi]⟩

set_option maxHeartbeats 4000000 in
theorem rints_any (w : World) (A B : Option Addr) (c d : Nat) (xs ys : List Nat) (hx : VRd w A (ints xs)) (hy : VRd w B (ints ys)) (hxl : xs.length ≤ 140737488355328) (hyl : ys.length ≤ 140737488355328) :
    Calls Tryz.prog 21 #[.slice A xs.length c, .slice B ys.length d] w fun e w' => e = .returned (.bool (decide (xs = ys))) ∧ ∃ n, w' = w.drewN n := by
  have HX := Sd.mk hx
  have HY := Sd.mk hy
  clear hx hy
  by_cases hlen : xs.length = ys.length
  case neg =>
    have hq : ((xs.length : Int) != (ys.length : Int)) = true := by simp; omega
    have hf : Sd (decide (xs = ys) = false) := ⟨decide_eq_false (fun e => hlen (by rw [e]))⟩
    clear hlen
    go_enter Tryz.func21, Tryz.ntmps21
    go_wp2
    go_ret
    exact ⟨by rw [hf.o]; rfl, 0, rfl⟩
  have hq : ((xs.length : Int) != (ys.length : Int)) = false := by simp; omega
  have HLEN := Sd.mk hlen
  clear hlen
  go_enter Tryz.func21, Tryz.ntmps21
  go_wp2_with fail
  go_loopg [5] xs.length (fun gk i wr => ∃ (k m : Nat), gk + k = xs.length ∧ i = .int .i64 k ∧ k ≤ xs.length ∧ Sd (xs.take k = ys.take k) ∧ Sd (wr = w.drewN m))
  case atStart => exact ⟨0, 0, by omega, rfl, by omega, ⟨by simp⟩, ⟨rfl⟩⟩
  case round =>
    obtain ⟨k, m, hk, rfl, hk1, hT, ⟨rfl⟩⟩ := hrel
    by_cases hlt : k < xs.length
    · have hq1 : (k : Int) < (xs.length : Int) := by omega
      have hq2 : (k : Int) < (ys.length : Int) := by have := HLEN.o; omega
      have hq0 : (0 : Int) ≤ (k : Int) := by omega
      have hlt2 : k < ys.length := by have := HLEN.o; omega
      obtain ⟨b1, o1, rfl, g1⟩ := HX.o k (by rw [ints_len]; exact hlt)
      obtain ⟨b2, o2, rfl, g2⟩ := HY.o k (by rw [ints_len]; exact hlt2)
      have g1' : w.cell? ⟨b1, o1 + k, none⟩ = some (.int .i64 (xs[k] : Nat)) := by rw [g1]; simp [ints]
      have g2' : w.cell? ⟨b2, o2 + k, none⟩ = some (.int .i64 (ys[k] : Nat)) := by rw [g2]; simp [ints]
      clear g1 g2
      by_cases he : xs[k] = ys[k]
      · have hst : Sd (xs.take (k + 1) = ys.take (k + 1)) := ⟨take_snoc _ _ k hlt hlt2 hT.o he⟩
        have heq : ((xs[k] : Int) != (ys[k] : Int)) = false := by rw [he]; simp
        clear he
        generalize xs[k] = x at *
        generalize ys[k] = y at *
        go_wp2_with fail
        go_quiet (fail)
        clear g1' g2' heq
        go_wp2_with fail
        go_roundg (gk - 1)
        case measure => omega
        case rel => exact ⟨k + 1, _, by omega, by go_num, by omega, hst, ⟨rfl⟩⟩
      · have hno : Sd (decide (xs = ys) = false) := ⟨decide_eq_false (fun e => he (by simp only [e]))⟩
        have heq : ((xs[k] : Int) != (ys[k] : Int)) = true := by simp; omega
        clear he
        generalize xs[k] = x at *
        generalize ys[k] = y at *
        go_wp2_with fail
        go_quiet (fail)
        clear g1' g2' heq
        go_wp2_with fail
        go_ret
        exact ⟨by rw [hno.o]; rfl, _, World.drewN_drewN _ _ _⟩
    · have hq1 : ¬ (k : Int) < (xs.length : Int) := by omega
      have hyes : Sd (decide (xs = ys) = true) := ⟨decide_eq_true (by
        have := hT.o
        rw [List.take_of_length_le (by omega), List.take_of_length_le (by have := HLEN.o; omega)] at this
        exact this)⟩
      go_wp2_with fail
      go_ret
      exact ⟨by rw [hyes.o]; rfl, _, rfl⟩

def HugePost (ls : List (List UInt8)) (w : World) (e : Ending) (w' : World) : Prop := ∃ bb : Bool, e = .returned (.bool bb) ∧ w = w' ∧ (bb = false → ls.length ≤ 300 ∧ ls.flatten.length ≤ 20000)
set_option maxHeartbeats 4000000 in
set_option maxRecDepth 100000 in
theorem shuge_any (w : World) (A : Option Addr) (c : Nat) (ls : List (List UInt8)) (hx : VRd w A (strs ls)) (hls : ∀ s ∈ ls, s.length ≤ 140737488351232) (hl : ls.length ≤ 9223372036854775807) :
    Calls Tryz.prog 7 #[.slice A ls.length c] w (HugePost ls w) := by
  have HX := Sd.mk hx
  have HL := Sd.mk hls
  clear hx hls
  go_enter Tryz.func7, Tryz.ntmps7
  go_wp2_with fail
  go_loopg [3, 4] 302 (fun gk n i wr => ∃ (k s : Nat), gk + k = 302 ∧ i = .int .i64 k ∧ k ≤ 301 ∧ k ≤ ls.length ∧ n = .int .i64 s ∧ s ≤ k * 140737488351232 ∧ Sd (s = (ls.take k).flatten.length) ∧ Sd (w = wr))
  case atStart => exact ⟨0, 0, rfl, rfl, by omega, by omega, rfl, by omega, ⟨rfl⟩, ⟨rfl⟩⟩
  case round =>
    obtain ⟨k, s, hk, rfl, hk1, hkl, rfl, hs, hsum, ⟨rfl⟩⟩ := hrel
    by_cases hlt : k < ls.length ∧ k ≤ 300
    · obtain ⟨hlt, hle⟩ := hlt
      have hq : decide (k < ls.length) = true := by simpa using hlt
      have hq2 : decide ((k : Int) ≤ 300) = true := by simp; omega
      obtain ⟨b1, o1, rfl, hc⟩ := HX.o k (by rw [strs_len]; exact hlt)
      have hc2 : w.cell? ⟨b1, o1 + k, none⟩ = some (.string (sOf ls[k])) := by rw [hc]; simp [strs]
      have hsz := HL.o _ (List.getElem_mem hlt)
      have htk : Sd ((ls.take (k + 1)).flatten.length = (ls.take k).flatten.length + ls[k].length) := ⟨by rw [flatten_take ls k hlt, List.length_append]⟩
      have hss : (sOf ls[k]).size = ls[k].length := sOf_size _
      generalize sOf ls[k] = S0 at *
      have HSS := Sd.mk hss
      rw [← hss] at hsz
      clear hss hc
      go_wp2
      go_roundg (gk - 1)
      case measure => omega
      case rel => exact ⟨k + 1, s + S0.size, by omega, by go_num, by omega, by omega, by go_num, by omega, ⟨by rw [htk.o, ← hsum.o, HSS.o]⟩, ⟨rfl⟩⟩
    · have hfin : Sd (ls.length ≤ 300 → s = ls.flatten.length) := ⟨fun h => by rw [hsum.o, List.take_of_length_le (by omega)]⟩
      by_cases hk2 : k < ls.length
      · have hq : decide (k < ls.length) = true := by simpa using hk2
        have hq2 : decide ((k : Int) ≤ 300) = false := by simp; omega
        have hbig : decide ((300 : Int) < (ls.length : Int)) = true := by simp; omega
        clear hlt
        go_wp2
        go_ret
        exact ⟨_, rfl, rfl, fun h => by cases h⟩
      · have hq : decide (k < ls.length) = false := by simpa using hk2
        clear hlt
        by_cases g1 : 300 < ls.length
        · have hb1 : decide ((300 : Int) < (ls.length : Int)) = true := by simp; omega
          go_wp2
          go_ret
          exact ⟨_, rfl, rfl, fun h => by cases h⟩
        · have hb1 : decide ((300 : Int) < (ls.length : Int)) = false := by simp; omega
          have hsl : Sd (s = ls.flatten.length) := ⟨hfin.o (by omega)⟩
          have hl60 : Sd (ls.length ≤ 300) := ⟨by omega⟩
          clear g1
          by_cases g2 : 20000 < s
          · have hb2 : decide ((20000 : Int) < (s : Int)) = true := by simp; omega
            go_wp2
            go_ret
            exact ⟨_, rfl, rfl, fun h => by cases h⟩
          · have hb2 : decide ((20000 : Int) < (s : Int)) = false := by simp; omega
            have hs20 : Sd (s ≤ 20000) := ⟨by omega⟩
            clear g2
            go_wp2
            go_ret
            exact ⟨_, rfl, rfl, fun _ => ⟨hl60.o, by rw [← hsl.o]; exact hs20.o⟩⟩
/-! ### live -/
def liveS : List (List UInt8) := [[97], [], [98], [97]]
theorem live_in : internL liveS [[]] = [[], [97], [98]] := by decide
theorem live_out : outL liveS [[]] = [1, 0, 2, 1] := by decide
theorem live_add : addedL liveS [[]] = [[97], [98]] := by decide
theorem live_fr (x : UInt8) : frameL [x] = sealL [1, x] := by
  unfold frameL put1T
  rw [show ([x] : List UInt8).length = 1 from rfl, put1_lt 1 (by decide)]
  rfl
theorem live_all : ∃ X : List UInt8, (addedL liveS [[]]).flatMap frameL = X ∧ X.length = 20 ∧ (X.take 19).length = 19 ∧ loadL (X.take 19) = some [[], [97]] ∧ (framesL (X.take 19)).2.1 = 10 := by
  rw [live_add]
  simp only [List.flatMap_cons, List.flatMap_nil, List.append_nil, live_fr]
  exact ⟨_, rfl, by decide +kernel, by decide +kernel, by decide +kernel, by decide +kernel⟩
end Go.Proofs.YtdjamijbhaplgaaGreat
