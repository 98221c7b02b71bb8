/- the reference: Frames, Same; the law's huge. -/
import Derived.Lib.Bytealg
import Derived.Lib.Walk
import Derived.Maps.OwnSet
import Derived.Maps.OwnOps
import Derived.StringKeys
import Derived.RegionTactic
import Derived.Test.YtdjamijbhaplgaaGreatGkay
import Derived.Test.YtdjamijbhaplgaaGreatGkag
import Derived.Test.YtdjamijbhaplgaaGreatGkal
import Derived.Test.YtdjamijbhaplgaaGreatGkai
import Derived.Test.YtdjamijbhaplgaaGreatGkah
namespace Go.Proofs.YtdjamijbhaplgaaGreat
open Go.RowKit

set_option maxHeartbeats 4000000 in
set_option maxRecDepth 100000 in
theorem rframes_any (w : World) (A : Option Addr) (c : Nat) (p : List UInt8) (hb : Bts w (.slice A p.length c) p) (hl : p.length ≤ 1099511627776) :
    Calls Tryz.prog 89 #[.slice A p.length c] w fun e w' => ∃ A' c', e = .returned (.tuple #[.slice A' (framesL p).1.length c', .int .i64 (framesL p).2.1, .int .i64 (framesL p).2.2]) ∧ LOwn w' (.slice A' (framesL p).1.length c') (framesL p).1 ∧ Fresh w (.slice A' (framesL p).1.length c') ∧ Keeps NoB w w' := by
  have HB := Sd.mk hb
  clear hb
  obtain ⟨R, hR⟩ : ∃ R, R = framesL p := ⟨_, rfl⟩
  rw [← hR]
  have HRR : Sd (framesGo (p.length + 1) p 0 [] = R) := ⟨hR.symm⟩
  clear hR
  obtain ⟨i0, hi, hz0, hz1, hz2⟩ := info_parts infoU8
  go_enter Tryz.func89, Tryz.ntmps89
  go_wp2_with fail
  go_loopg [5, 6] (p.length + 1) (fun gk l i wr => ∃ (k : Nat) (acc : List (List UInt8)) (A1 : Option Addr) (c1 : Nat), p.length < gk + k ∧ i = .int .i64 k ∧ k ≤ p.length ∧ l = .slice A1 acc.length c1 ∧ acc.length ≤ k ∧ Sd (framesGo gk p k acc = R) ∧ Sd (LOwn wr (.slice A1 acc.length c1) acc) ∧ Sd (Fresh w (.slice A1 acc.length c1)) ∧ Sd (Keeps NoB w wr))
  case atStart => exact ⟨0, [], none, 0, by omega, rfl, by omega, rfl, by simp, HRR, ⟨LOwn.nil _⟩, ⟨fun k hk => by simp [Value.ownBlock] at hk⟩, ⟨Keeps.refl _ _⟩⟩
  case round =>
    clear HRR
    obtain ⟨k, acc, A1, c1, hk, rfl, hkl, rfl, hacl, HRR, HO, HF, HK⟩ := hrel
    by_cases hlt : k < p.length
    · have hq : (k : Int) < (p.length : Int) := by omega
      obtain ⟨g, rfl⟩ : ∃ g, gk = g + 1 := ⟨gk - 1, by omega⟩
      have hsl : ∀ W : World, (Instr.slice 49 (.slice A p.length c) (some (.int .i64 (k : Int))) none none).run Tryz.prog W = .ok (.slice (cutA A c k) (p.length - k) (c - k)) W := fun W =>
        slice_run_l 49 5 .i64 Tryz.underlying49 hi hz1 A p.length c k (by omega) W _ rfl
      have hdl : (p.drop k).length = p.length - k := by simp
      have HOp := Sd.mk (ropen_any wr (cutA A c k) (c - k) (p.drop k) (by rw [hdl]; exact (HB.o.drop k (by omega)).keeps HK.o (fun _ _ _ _ _ f => f)) (by omega))
      rw [hdl] at HOp
      have hgo : Sd (framesGo (g + 1) p k acc = if (openL (p.drop k)).2.2 = 0 then framesGo g p (k + (openL (p.drop k)).2.1) (acc ++ [(openL (p.drop k)).1]) else (acc, k, (openL (p.drop k)).2.2)) := ⟨by rw [framesGo, if_pos hlt]⟩
      have hok := Sd.mk (openL_ok (p.drop k))
      rw [hdl] at hok
      generalize openL (p.drop k) = Q at *
      obtain ⟨q, n, er⟩ := Q
      dsimp only at *
      clear hdl
      go_wp2_with fail
      refine HOp.o.mono ?_
      clear HOp hsl
      rintro e w2 ⟨A2, c2, rfl, hO2, hF2, hK2⟩
      have HO2 := Sd.mk hO2
      have HF2 := Sd.mk hF2
      have HK2 := Sd.mk hK2
      clear hO2 hF2 hK2
      by_cases he : er = 0
      · have hb : (er != 0) = false := by simp [he]
        have hgo2 := hgo.o
        rw [if_pos he, HRR.o] at hgo2
        have HG := Sd.mk hgo2
        have hok2 := hok.o he
        clear hgo2 he hok
        have HV : Sd (OwnV w2 49 (.slice A1 acc.length c1) (HO.o.choose)) := ⟨(HO.o.choose_spec.2.1).keeps HK2.o (fun _ _ f => f)⟩
        have hvl := HO.o.choose_spec.1
        have hve := HO.o.choose_spec.2.2
        generalize HO.o.choose = vs at *
        have HVE := Sd.mk hve
        have HVL := Sd.mk hvl
        clear hve hvl
        have hOV : Sd (OwnV (w2.alloc (.cells #[.slice A2 q.length c2] 49)) 49 (.slice A1 acc.length c1) vs) := ⟨HV.o.keeps ((Keeps.refl NoB _).alloc _) (fun _ _ f => f)⟩
        go_wp2_with (at_builtin; go_must (refine app_row rfl _ _ 145 49 (.slice none 0 0) 24 rfl Tryz.underlying145 infoBs rfl (.slice A1 acc.length c1) vs rfl hOV.o ⟨_, 0, none⟩ 1 1 [.slice A2 q.length c2] rfl rfl (fun _ _ hj => new_one hj) (fun u hu => by simp at hu; subst hu; rfl) (by rw [HVL.o]; omega) (by rw [HVL.o]; omega) ?_))
        intro A3 c3 w3 HO3 HK3 HG3
        have HO3' := Sd.mk HO3
        have HK3' := Sd.mk HK3
        have HG3' := Sd.mk HG3
        clear HO3 HK3 HG3
        go_wp2
        go_roundg g
        case measure => omega
        case rel =>
          have hvl := HVL.o
          have e1 : vs.length + 1 = (acc ++ [q]).length := by simp; omega
          rw [e1] at HO3' HG3' ⊢
          refine ⟨k + n, acc ++ [q], A3, c3, by omega, by go_num, by omega, rfl, by simp; omega, ⟨HG.o.symm⟩, ⟨vs ++ [.slice A2 q.length c2], by simp; omega, HO3'.o, fun i hi hi' => ?_⟩, ⟨HF.o.grew (Nat.le_trans HK.o.size HK2.o.size) HG3'.o.undoalloc⟩, ⟨(HK.o.then HK2.o).fresh HF.o HK3'.o.undoalloc⟩⟩
          have hne : ∀ u us, OwnV w2 5 u us → OwnV w3 5 u us := fun u us hu => hu.keeps HK3'.o.undoalloc (HV.o.ne hu (by decide))
          by_cases hil : i < vs.length
          · have h1 := HVE.o i hil (by omega)
            rw [List.getElem_append_left hil, List.getElem_append_left (by omega)]
            exact hne _ _ (h1.keeps HK2.o (fun _ _ f => f))
          · have h2 : i = vs.length := by simp at hi; omega
            subst h2
            rw [List.getElem_append_right (by omega), List.getElem_append_right (by omega)]
            simp only [hvl, Nat.sub_self, List.getElem_cons_zero]
            exact hne _ _ HO2.o
      · have hb : (er != 0) = true := by simp [he]
        have hgo2 := hgo.o
        rw [if_neg he, HRR.o] at hgo2
        have HG := Sd.mk hgo2
        clear hgo2 he hok
        go_wp2
        go_ret3
        rw [HG.o]
        obtain ⟨vs, hvl, hv, hve⟩ := HO.o
        exact ⟨A1, c1, rfl, ⟨vs, hvl, hv.keeps HK2.o (fun _ _ f => f), fun i hi hi' => (hve i hi hi').keeps HK2.o (fun _ _ f => f)⟩, HF.o, HK.o.then HK2.o⟩
    · have hq : ¬ (k : Int) < (p.length : Int) := by omega
      have hR : R = (acc, k, 0) := by
        rw [← HRR.o]
        cases gk with
        | zero => rfl
        | succ g => rw [framesGo, if_neg hlt]
      have HR := Sd.mk hR
      clear hR
      go_wp2
      go_ret3
      rw [HR.o]
      exact ⟨A1, c1, rfl, HO.o, HF.o, HK.o⟩

end Go.Proofs.YtdjamijbhaplgaaGreat
namespace Go.Proofs.YtdjamijbhaplgaaGreat
open Go.RowKit
theorem cv_bts {w : World} {A : Option Addr} {n c : Nat} {xs : List UInt8} (h : Bts w (.slice A n c) xs) : (convert 49 9 (.slice A n c)).run Tryz.prog w = .ok (.string (sOf xs)) w := by
  have e := h.rd.1
  subst e
  exact conv_rd (P := Tryz.prog) w 49 5 9 Tryz.underlying49 Tryz.underlying5 Tryz.underlying9 A xs c h.rd.2.2.2.2.2
theorem Bts.kept {w w' : World} {v : Value} {xs : List UInt8} (h : Bts w v xs) (k : Keeps NoB w w') : Bts w' v xs := h.keeps k (fun _ _ _ _ _ f => f)
theorem OwnV.kept {w w' : World} {e : TypeId} {v : Value} {vs : List Value} (h : OwnV w e v vs) (k : Keeps NoB w w') : OwnV w' e v vs := h.keeps k (fun _ _ f => f)
theorem LRd.kept {w w' : World} {A : Option Addr} {ls : List (List UInt8)} (h : LRd w A ls) (k : Keeps NoB w w') : LRd w' A ls := h.keeps k (fun _ _ f => f)
theorem LOwn.kept {w w' : World} {v : Value} {ls : List (List UInt8)} (h : LOwn w v ls) (k : Keeps NoB w w') : LOwn w' v ls := by
  obtain ⟨vs, hl, ho, hb⟩ := h
  exact ⟨vs, hl, ho.kept k, fun i hi hi' => (hb i hi hi').kept k⟩
theorem flat_take_le (ls : List (List UInt8)) (k : Nat) : (ls.take k).flatten.length ≤ ls.flatten.length := by
  have e2 : ls.flatten = (ls.take k).flatten ++ (ls.drop k).flatten := by rw [← List.flatten_append, List.take_append_drop]
  rw [e2, List.length_append]; omega
theorem framesGo_len : ∀ (n : Nat) (p : List UInt8) (k : Nat) (acc : List (List UInt8)), acc.length ≤ k → k ≤ p.length → (framesGo n p k acc).1.length ≤ p.length
  | 0, p, k, acc, h, h2 => by simp [framesGo]; omega
  | n + 1, p, k, acc, h, h2 => by
    unfold framesGo
    split
    · split
      · rename_i h3 h4
        have := openL_ok (p.drop k) h4
        rw [List.length_drop] at this
        exact framesGo_len n p _ _ (by simp; omega) (by omega)
      · simp; omega
    · simp; omega
theorem framesL_len (p : List UInt8) : (framesL p).1.length ≤ p.length := framesGo_len _ p 0 [] (by simp) (by omega)
/-- The block of an owned row of bytes that is not empty. -/
theorem OwnV.blk {w : World} {A : Option Addr} {n c : Nat} {xs : List UInt8} (h : OwnV w 5 (.slice A n c) (bvs xs)) (hp : 0 < xs.length) : ∃ g cur, A = some ⟨g, 0, none⟩ ∧ n = xs.length ∧ w.heap[g]? = some (.cells cur 5 (0, 0)) ∧ n ≤ c ∧ c ≤ maxLen ∧ cur.size = c ∧ cur.toList.take n = bvs xs := by
  have hl := bvs_length xs
  obtain ⟨h1, h2⟩ := h
  rcases h2 with ⟨e0, hn⟩ | ⟨g, cap, cur, e0, hb, hg, hn, hc, hs, ht⟩
  · omega
  · injection e0 with e1 e2 e3
    subst e1 e3
    rw [hl] at e2
    subst e2
    rw [hl, Nat.mul_one] at ht
    exact ⟨g, cur, rfl, rfl, hg, by rw [hl] at hn; exact hn, hc, by rw [hs]; omega, ht⟩
theorem own_set {w : World} {g n c b : Nat} {cur : Array Value} {xs : List UInt8} (hg : w.heap[g]? = some (.cells cur 5 (0, 0))) (hn : n = xs.length) (hnc : n ≤ c) (hcm : c ≤ maxLen) (hs : cur.size = c) (ht : cur.toList.take n = bvs xs) (y : UInt8) (u : Value) (hu : u = u8v y) :
    OwnV (w.setCell ⟨g, b, none⟩ u) 5 (.slice (some ⟨g, 0, none⟩) n c) (bvs (xs.set b y)) := by
  subst hu
  refine ⟨by simp [bvs], .inr ⟨g, c, cur.setIfInBounds b (u8v y), by simp [bvs, hn], Nat.zero_le _, blk_set hg b _, by simp [bvs]; omega, hcm, by simp [hs], ?_⟩⟩
  simp only [bvs_length, List.length_set, Nat.mul_one, Array.toList_setIfInBounds]
  rw [← hn, List.take_set, ht]
  simp [bvs]
theorem Keeps.set {w w' : World} (h : Keeps NoB w w') (g b : Nat) (u : Value) (hg : w.heap.size ≤ g) : Keeps NoB w (w'.setCell ⟨g, b, none⟩ u) :=
  h.trans (G := OneB g) ⟨rfl, rfl, rfl, by simp [World.setCell], fun k _ hk => Below.heap_setCell _ _ _ _ hk⟩ (fun _ _ f => f) (fun i hi e => by cases e; omega)
theorem xor_u8 (a b : Nat) (ha : a < 2 ^ 8) (hb : b < 2 ^ 8) : bits .xor .u8 (a : Int) (b : Int) = ((a ^^^ b : Nat) : Int) := by
  have hx : a ^^^ b < 2 ^ 8 := Nat.xor_lt_two_pow ha hb
  have h1 : (BitVec.ofInt 8 (a : Int)).toNat = a := by
    rw [BitVec.ofInt_natCast, BitVec.toNat_ofNat]; exact Nat.mod_eq_of_lt ha
  have h2 : (BitVec.ofInt 8 (b : Int)).toNat = b := by
    rw [BitVec.ofInt_natCast, BitVec.toNat_ofNat]; exact Nat.mod_eq_of_lt hb
  show IntKind.u8.wrap ((BitVec.ofInt 8 (a : Int) ^^^ BitVec.ofInt 8 (b : Int)).toNat : Int) = _
  rw [BitVec.toNat_xor, h1, h2]
  exact wraps_u8 _ (by omega) (by exact_mod_cast hx)
theorem LRd.take {w : World} {A : Option Addr} {ls : List (List UInt8)} (h : LRd w A ls) (k : Nat) : LRd w A (ls.take k) := by
  obtain ⟨vs, hl, hv, hb⟩ := h
  refine ⟨vs.take k, by simp [hl], fun i hi => ?_, fun i hi hi' => ?_⟩
  · rw [List.length_take] at hi
    obtain ⟨b, o, e, hc⟩ := hv i (by omega)
    exact ⟨b, o, e, by rw [hc]; simp⟩
  · rw [List.length_take] at hi
    simp only [List.getElem_take]
    exact hb i (by omega) (by omega)
end Go.Proofs.YtdjamijbhaplgaaGreat
namespace Go.Proofs.YtdjamijbhaplgaaGreat
open Go.RowKit Go.Maps

theorem sixb_any (s : ByteArray) (c : Int) (w : World) :
    Calls Tryz.prog 97 #[.string s, .int .u8 c] w fun e w' => e = .returned (.int .i64 (Lib.indexByte s.data.toList c.toNat.toUInt8)) ∧ w = w' := by
  go_enter Tryz.func97, Tryz.ntmps97
  go_wp2_with (go_at_call 113; refine (ixb_any _ _ _).mono ?_; rintro e w' ⟨rfl, rfl⟩)
  go_ret
  exact ⟨rfl, rfl⟩
set_option maxHeartbeats 1000000 in
theorem may_any (s : ByteArray) (w : World) : Calls Tryz.prog 66 #[.string s] w fun e w' => e = .returned (.bool (mayL s.data.toList)) ∧ w = w' := by
  have hsz : s.data.toList.length = s.size := by rw [Array.length_toList]; rfl
  have hn := indexByte_neg s.data.toList 0
  by_cases h : s.size ≤ 64
  · have hq : decide (s.size ≤ 64) = true := by simpa using h
    have hq2 : decide ((s.size : Int) ≤ 64) = true := by simp; omega
    have hf : Sd (mayL s.data.toList = !s.data.toList.contains 0) := ⟨by unfold mayL; rw [hsz, hq]; rfl⟩
    obtain ⟨x, hx⟩ : ∃ x, x = Lib.indexByte s.data.toList 0 := ⟨_, rfl⟩
    have HX := Sd.mk hx
    rw [← hx] at hn
    obtain ⟨y, hy⟩ : ∃ y, y = !s.data.toList.contains 0 := ⟨_, rfl⟩
    rw [← hy] at hn hf
    clear hx hy hsz
    go_enter Tryz.func66, Tryz.ntmps66
    go_wp2_with fail
    refine (sixb_any s 0 w).mono ?_
    rw [show (0 : Int).toNat.toUInt8 = 0 from rfl, ← HX.o]
    rintro e w' ⟨rfl, rfl⟩
    go_wp2
    go_ret
    exact ⟨by rw [hf.o]; rfl, rfl⟩
  · have hq2 : decide ((s.size : Int) ≤ 64) = false := by simp; omega
    have hf : Sd (mayL s.data.toList = false) := ⟨by unfold mayL; rw [hsz]; simp; omega⟩
    clear hsz hn h
    go_enter Tryz.func66, Tryz.ntmps66
    go_wp2
    go_ret
    exact ⟨by rw [hf.o]; rfl, rfl⟩

/-! ### maps from symbols to numbers -/
/-- Block b is the map of the symbols l to their places. -/
def MapS (w : World) (b : Nat) (l : List (List UInt8)) : Prop := ∃ (D : DataW Unit) (n : Nat), w.ownsMap Tryz.prog 9 (plainElem (H := Unit) Tryz.prog 3) b n D ∧ n ≤ l.length ∧
  ∀ s : List UInt8, Maps.has D (.string s) = decide (s ∈ l) ∧ D.atKey (.string s) zd0 = .lit (.int .i64 (numL l s : Nat))
theorem numL_lt {l : List (List UInt8)} (s : List UInt8) (h : l ≠ []) : numL l s < l.length := by
  unfold numL
  split
  · rename_i hs; exact List.idxOf_lt_length_of_mem hs
  · exact List.length_pos_iff.2 h
theorem MapS.look {w : World} {b : Nat} {l : List (List UInt8)} (h : MapS w b l) (S : ByteArray) (hS : S.size ≤ 9223372036854775807) :
    (Instr.lookup 78 (.map (some b)) (.string S) true).run Tryz.prog w = .ok (.tuple #[.int .i64 (numL l S.data.toList : Nat), .bool (decide (S.data.toList ∈ l))]) w := by
  obtain ⟨D, n, hown, hn, hD⟩ := h
  have hkey := Go.WideMaps.keyOf_string_mk (P := Tryz.prog) Tryz.underlying9 (s := S) (by unfold maxLen; exact hS)
  have hz : plainElem (H := Unit) Tryz.prog 3 (.int .i64 0) = some (zd0, []) := plainElem_int Tryz.underlying3 (by decide)
  obtain ⟨v, ps, hrun, hR⟩ := hown.look_ok keyS Tryz.underlying78 (zeroInt w) hz hkey
  obtain ⟨c, rfl, hc, _⟩ := plainElem_int_inv Tryz.underlying3 hR
  rw [(hD S.data.toList).2] at hc
  simp at hc
  rw [hrun, (hD S.data.toList).1, hc.1]
theorem MapS.look1 {w : World} {b : Nat} {l : List (List UInt8)} (h : MapS w b l) (S : ByteArray) (hS : S.size ≤ 9223372036854775807) :
    (Instr.lookup 78 (.map (some b)) (.string S) false).run Tryz.prog w = .ok (.int .i64 (numL l S.data.toList : Nat)) w := by
  obtain ⟨D, n, hown, hn, hD⟩ := h
  have hkey := Go.WideMaps.keyOf_string_mk (P := Tryz.prog) Tryz.underlying9 (s := S) (by unfold maxLen; exact hS)
  have hz : plainElem (H := Unit) Tryz.prog 3 (.int .i64 0) = some (zd0, []) := plainElem_int Tryz.underlying3 (by decide)
  obtain ⟨v, ps, hrun, hR⟩ := hown.lookup keyS Tryz.underlying78 (zeroInt w) hz hkey
  obtain ⟨c, rfl, hc, _⟩ := plainElem_int_inv Tryz.underlying3 hR
  rw [(hD S.data.toList).2] at hc
  simp at hc
  rw [hrun, hc.1]
theorem numL_snoc (l : List (List UInt8)) (s x : List UInt8) (hs : s ∉ l) : numL (l ++ [s]) x = if x = s then l.length else numL l x := by
  unfold numL
  by_cases hx : x = s
  · subst hx
    rw [if_pos (by simp), if_pos rfl, List.idxOf_append, if_neg hs]
    simp
  · rw [if_neg hx]
    by_cases hm : x ∈ l
    · rw [if_pos (by simp [hm]), if_pos hm, List.idxOf_append, if_pos hm]
    · rw [if_neg (by simp [hm, hx]), if_neg hm]
/-- A new symbol is laid into the map. -/
theorem MapS.put {w : World} {b : Nat} {l : List (List UInt8)} (h : MapS w b l) (S : ByteArray) (hS : S.size ≤ 9223372036854775807) (hs : S.data.toList ∉ l) (hl : l.length < 9223372036854775807) :
    ∃ w', (Instr.mapUpdate 78 (.map (some b)) (.string S) (.int .i64 (l.length : Nat))).run Tryz.prog w = .ok () w' ∧ MapS w' b (l ++ [S.data.toList]) ∧ Keeps (OneB b) w w' := by
  obtain ⟨D, n, hown, hn, hD⟩ := h
  have hkey := Go.WideMaps.keyOf_string_mk (P := Tryz.prog) Tryz.underlying9 (s := S) (by unfold maxLen; exact hS)
  have hv : plainElem (H := Unit) Tryz.prog 3 (.int .i64 (l.length : Nat)) = some (.lit (.int .i64 (l.length : Nat)), []) := plainElem_int Tryz.underlying3 (wf_small (by omega))
  obtain ⟨w', hrun, hown', hg⟩ := hown.update keyS Tryz.underlying78 (by unfold maxLen; omega) hkey hv
  refine ⟨w', hrun, ⟨_, n + 1, hown', by simp; omega, fun x => ?_⟩, Keeps.of_grown hg (fun b' hb _ => by cases hb; rfl)⟩
  have hm := hown.isMap
  rw [numL_snoc l _ x hs]
  by_cases hx : x = S.data.toList
  · subst hx
    rw [has_put_same hm (by simp [WideAt.IsKeyLit]), atKey_put_same hm (by simp [WideAt.IsKeyLit]), if_pos rfl]
    simp
  · have hne : Lit.string x ≠ Lit.string S.data.toList := fun e => hx (by injection e)
    rw [has_put_other hne, atKey_put_other hne, if_neg hx, (hD x).1, (hD x).2]
    refine ⟨?_, rfl⟩
    simp [hx]
theorem MapS.keeps {F : Nat → Prop} {w w' : World} {b : Nat} {l : List (List UInt8)} (h : MapS w b l) (k : Keeps F w w') (hF : ¬ F b) : MapS w' b l := by
  obtain ⟨D, n, ⟨es, clock, hb, r⟩, hn⟩ := h
  exact ⟨D, n, ⟨es, clock, k.obj hb hF, r⟩, hn⟩
theorem MapS.lt {w : World} {b : Nat} {l : List (List UInt8)} (h : MapS w b l) : b < w.heap.size := by
  obtain ⟨D, n, hown, _⟩ := h; exact hown.lt
theorem MapS.made (w : World) : MapS (w.alloc (.map #[] 0)) w.heap.size [] :=
  ⟨.map [], 0, World.ownsMap_made _ _ _ _, Nat.le_refl _, fun s => ⟨by simp [Maps.has], by simp [DataW.atKey, numL, zd0]⟩⟩
end Go.Proofs.YtdjamijbhaplgaaGreat
namespace Go.Proofs.YtdjamijbhaplgaaGreat
open Go.RowKit Go.Maps

theorem infoStr : (Tryz.prog.info? 9).map (fun i => (i.zero, i.size, i.bytes)) = some (some (.string ⟨#[]⟩), 1, 16) := by kernel_rfl
/-- A table in block b, its map in block mb; all its blocks are new since base. -/
structure IsT (w : World) (base b mb : Nat) (A : Option Addr) (c : Nat) (l : List (List UInt8)) : Prop where
  blk : w.heap[b]? = some (.cells #[.slice A l.length c, .map (some mb)] 131 (0, 0))
  own : OwnV w 9 (.slice A l.length c) (strs l)
  map : MapS w mb l
  ne : l ≠ []
  sz : ∀ s ∈ l, s.length ≤ 64
  b0 : base ≤ b
  m0 : base ≤ mb
  a0 : ∀ k, (Value.slice A l.length c).ownBlock = some k → base ≤ k
theorem cells_ne_map {w : World} {b mb : Nat} {l : List (List UInt8)} {cs : Array Value} {t : TypeId} {f : Nat × Nat} (h : w.heap[b]? = some (.cells cs t f)) (m : MapS w mb l) : mb ≠ b := by
  rintro rfl
  obtain ⟨D, n, ⟨es, clock, hb, _⟩, _⟩ := m
  rw [h] at hb
  simp at hb
theorem OwnV.ne_blk {w : World} {e : TypeId} {v : Value} {vs : List Value} (h : OwnV w e v vs) {b : Nat} {cs : Array Value} {t : TypeId} {f : Nat × Nat} (hb : w.heap[b]? = some (.cells cs t f)) (hne : e ≠ t) : ¬ ownB v b := by
  intro hk
  rcases h.2 with ⟨rfl, _⟩ | ⟨g, cap, cur, rfl, _, hg, _⟩
  · simp [ownB, Value.ownBlock] at hk
  · simp [ownB, Value.ownBlock] at hk
    subst hk
    rw [hb] at hg
    simp at hg
    exact hne hg.2.1.symm
theorem OwnV.ne_map {w : World} {e : TypeId} {v : Value} {vs : List Value} (h : OwnV w e v vs) {mb : Nat} {l : List (List UInt8)} (m : MapS w mb l) : ¬ ownB v mb := by
  intro hk
  obtain ⟨D, n, ⟨es, clock, hb, _⟩, _⟩ := m
  rcases h.2 with ⟨rfl, _⟩ | ⟨g, cap, cur, rfl, _, hg, _⟩
  · simp [ownB, Value.ownBlock] at hk
  · simp [ownB, Value.ownBlock] at hk
    subst hk
    rw [hb] at hg
    simp at hg
theorem IsT.keeps {F : Nat → Prop} {w w' : World} {base b mb : Nat} {A : Option Addr} {c : Nat} {l : List (List UInt8)} (h : IsT w base b mb A c l) (k : Keeps F w w') (hF : ∀ i, base ≤ i → i < w.heap.size → ¬ F i) : IsT w' base b mb A c l :=
  ⟨k.obj h.blk (hF b h.b0 (Array.getElem?_eq_some_iff.1 h.blk).1), h.own.keeps k (fun i hi => hF i (h.a0 i hi) (h.own.lt i hi)), h.map.keeps k (hF mb h.m0 h.map.lt), h.ne, h.sz, h.b0, h.m0, h.a0⟩
theorem IsT.kept {w w' : World} {base b mb : Nat} {A : Option Addr} {c : Nat} {l : List (List UInt8)} (h : IsT w base b mb A c l) (k : Keeps NoB w w') : IsT w' base b mb A c l := h.keeps k (fun _ _ _ f => f)

set_option maxHeartbeats 1000000 in
theorem tnew_any (w : World) : Calls Tryz.prog 26 #[] w fun e w' => ∃ b mb A c, e = .returned (.pointer (some ⟨b, 0, none⟩)) ∧ IsT w' w.heap.size b mb A c [[]] ∧ Keeps NoB w w' := by
  obtain ⟨w1, hrun, hm1, hk1⟩ := (MapS.made (w.alloc (.cells #[.string ⟨#[]⟩] 9))).put ⟨#[]⟩ (by decide) (by simp) (by decide)
  have e1 : (w.alloc (.cells #[Value.string ⟨#[]⟩] 9)).heap.size = w.heap.size + 1 := by simp
  rw [e1] at hrun hm1 hk1
  have HM := Sd.mk hm1
  have HK := Sd.mk hk1
  have hrun' : (Instr.mapUpdate 78 (.map (some (w.heap.size + 1))) (.string ⟨#[]⟩) (.int .i64 0)).run Tryz.prog ((w.alloc (.cells #[.string ⟨#[]⟩] 9)).alloc (.map #[] 0)) = .ok () w1 := hrun
  clear hm1 hk1 hrun
  have hmm := @run_makeMap Tryz.prog
  go_enter Tryz.func26, Tryz.ntmps26
  go_wp2
  go_ret
  have hk : Keeps NoB w w1 := (((Keeps.refl NoB w).alloc _).alloc _).trans HK.o (fun _ _ f => f) (fun i hi e => by cases e; omega)
  have hw1 : w.heap.size + 2 ≤ w1.heap.size := by have := HK.o.size; simp at this; omega
  have hb1 : w1.heap[w.heap.size]? = some (.cells #[.string ⟨#[]⟩] 9 (0, 0)) := by
    refine HK.o.obj (Keeps.obj ((Keeps.refl NoB _).alloc _) (heap_alloc_new w _) (fun f => f)) (fun e => by have e' : w.heap.size = w.heap.size + 1 := e; omega)
  have hk2 : Keeps NoB w1 (w1.alloc (.cells #[.slice (some ⟨w.heap.size, 0, none⟩) 1 1, .map (some (w.heap.size + 1))] 131)) := (Keeps.refl NoB w1).alloc _
  refine ⟨_, rfl, ⟨w.heap.size + 1, _, 1, ⟨heap_alloc_new _ _, ⟨by simp [strs], .inr ⟨w.heap.size, 1, #[.string ⟨#[]⟩], rfl, Nat.zero_le _, hk2.obj hb1 (fun f => f), by simp [strs], by decide, by simp, by simp [strs, sOf]⟩⟩, HM.o.keeps hk2 (fun f => f), by simp, by simp, by omega, by omega, fun k hk => by simp [Value.ownBlock] at hk; omega⟩⟩, hk.then hk2⟩

/-- The blocks of a table. -/
def TabB (b mb : Nat) (v : Value) : Nat → Prop := fun i => i = b ∨ i = mb ∨ ownB v i
set_option maxHeartbeats 2000000 in
theorem tadd_full (w : World) (base b mb : Nat) (A : Option Addr) (c : Nat) (l : List (List UInt8)) (h : IsT w base b mb A c l) (S : ByteArray) (hS : S.size ≤ 64) (hs : S.data.toList ∉ l) (hl : l.length ≤ 65536) (hbase : base ≤ w.heap.size) :
    Calls Tryz.prog 67 #[.pointer (some ⟨b, 0, none⟩), .string S] w fun e w' => e = .returned (.tuple #[]) ∧ (∃ A' c', IsT w' base b mb A' c' (l ++ [S.data.toList]) ∧ Grew w (.slice A l.length c) (.slice A' (l ++ [S.data.toList]).length c')) ∧ Keeps (TabB b mb (.slice A l.length c)) w w' := by
  have h0 : w.cell? ⟨b, 0, none⟩ = some (.slice A l.length c) := blk_cell h.blk 0
  have h1 : w.cell? ⟨b, 1, none⟩ = some (.map (some mb)) := blk_cell h.blk 1
  have hmne := cells_ne_map h.blk h.map
  obtain ⟨w1, hrun, hm1, hk1⟩ := (show MapS w.drew mb l from h.map).put S (by omega) hs (by omega)
  have hk1' : Keeps (OneB mb) w w1 := hk1.undrew1
  have hblk1 := hk1'.obj h.blk (fun e => hmne (by cases e; rfl))
  have h0' : w1.cell? ⟨b, 0, none⟩ = some (.slice A l.length c) := blk_cell hblk1 0
  have f0' := blk_frozen hblk1 0
  have hown1 : OwnV w1 9 (.slice A l.length c) (strs l) := h.own.keeps hk1' (fun k hk e => by cases e; exact h.own.ne_map h.map hk)
  have HB1 := Sd.mk hblk1
  have HM1 := Sd.mk hm1
  have HK1 := Sd.mk hk1'
  have HO1 := Sd.mk hown1
  have H := Sd.mk h
  have hll := strs_len l
  have HLL := Sd.mk hll
  have hsz : S.data.toList.length = S.size := by rw [Array.length_toList]; rfl
  have HSZ := Sd.mk hsz
  have hsx : Value.string S = Value.string (sOf S.data.toList) := by rw [sOf_eq]
  have HSX := Sd.mk hsx
  clear h hm1 hk1 hk1' hblk1 hown1 hll hmne hs hsz hsx
  go_enter Tryz.func67, Tryz.ntmps67
  go_wp2_with fail
  go_region
  clear h0 h1 hrun
  go_wp2_with (at_builtin; go_must (refine app_row rfl _ _ 33 9 (.string ⟨#[]⟩) 16 rfl Tryz.underlying33 infoStr rfl (.slice A l.length c) (strs l) rfl (HO1.o.kept ((Keeps.refl NoB w1).alloc _)) ⟨w1.heap.size, 0, none⟩ 1 1 [.string S] rfl rfl (fun _ _ hj => new_one hj) (fun u hu => by simp at hu; subst hu; rfl) (by rw [HLL.o]; omega) (by rw [HLL.o]; omega) ?_); intro A2 c2 w2 HO2 HK2 HG2; rw [HLL.o] at HO2 HG2 ⊢; have hK2 : Keeps (ownB (.slice A l.length c)) w1 w2 := HK2.undoalloc; have hb2 := hK2.obj HB1.o (HO1.o.ne_blk HB1.o (by decide)); have h2 : w2.cell? ⟨b, 0, none⟩ = some (.slice A l.length c) := blk_cell hb2 0; have f2 := blk_frozen hb2 0; have HP := Sd.mk (And.intro HO2 (And.intro hK2 (And.intro HG2 hb2))); clear HO2 HK2 HG2 hK2 hb2)
  go_end0
  obtain ⟨HO2, hK2, HG2, hb2⟩ := HP.o
  have e1 : strs l ++ [Value.string S] = strs (l ++ [S.data.toList]) := by rw [HSX.o]; simp [strs]
  have e2 : l.length + 1 = (l ++ [S.data.toList]).length := by simp
  rw [e1] at HO2
  rw [e2] at HO2 HG2 ⊢
  have hF1 : Keeps (TabB b mb (.slice A l.length c)) w w1 := HK1.o.mono (fun i _ e => .inr (.inl e))
  have hF2 : Keeps (TabB b mb (.slice A l.length c)) w w2 := hF1.trans hK2 (fun _ _ f => f) (fun i hi f => .inr (.inr f))
  have hF3 : Keeps (OneB b) w2 (w2.setCell ⟨b, 0, none⟩ (.slice A2 (l ++ [S.data.toList]).length c2)) := (Keeps.refl (OneB b) w2).setCell ⟨b, 0, none⟩ _ (fun _ => rfl)
  have hm2 : MapS w2 mb (l ++ [S.data.toList]) := HM1.o.keeps hK2 (HO1.o.ne_map HM1.o)
  refine ⟨rfl, ⟨A2, c2, ⟨blk_set hb2 0 _, HO2.keeps hF3 (fun k hk e => by
      have e' : k = b := e
      subst e'
      exact HO2.ne_blk hb2 (by decide) hk), hm2.keeps hF3 (fun e => cells_ne_map hb2 hm2 e), by simp, fun s hs => ?_, H.o.b0, H.o.m0, fun k hk => ?_⟩, fun k hk => ?_⟩, hF2.trans hF3 (fun _ _ f => f) (fun i _ e => .inl e)⟩
  · rcases List.mem_append.1 hs with h | h
    · exact H.o.sz s h
    · simp at h; subst h; rw [Array.length_toList]; exact hS
  · rcases HG2 k hk with h | h
    · exact H.o.a0 k h
    · simp at h
      have := HK1.o.size
      omega
  · rcases HG2 k hk with h | h
    · exact .inl h
    · simp at h
      have := HK1.o.size
      exact .inr (by omega)
theorem tadd_any (w : World) (base b mb : Nat) (A : Option Addr) (c : Nat) (l : List (List UInt8)) (h : IsT w base b mb A c l) (S : ByteArray) (hS : S.size ≤ 64) (hs : S.data.toList ∉ l) (hl : l.length ≤ 65536) (hbase : base ≤ w.heap.size) :
    Calls Tryz.prog 67 #[.pointer (some ⟨b, 0, none⟩), .string S] w fun e w' => e = .returned (.tuple #[]) ∧ (∃ A' c', IsT w' base b mb A' c' (l ++ [S.data.toList])) ∧ Keeps (FromB base) w w' :=
  (tadd_full w base b mb A c l h S hS hs hl hbase).mono fun e w' ⟨he, ⟨A', c', hT, _⟩, hK⟩ => ⟨he, ⟨A', c', hT⟩, hK.mono (fun i hi f => by
    rcases f with f | f | f
    · rw [f]; exact h.b0
    · rw [f]; exact h.m0
    · exact h.a0 i f)⟩
end Go.Proofs.YtdjamijbhaplgaaGreat
