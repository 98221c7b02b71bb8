/- octet: Seal. -/
import Derived.Test.YtdjamijbhaplgaaOctI
import Derived.Test.YtdjamijbhaplgaaOctQ
namespace Go.Proofs.Ytdjamijbhaplgaa
open Go.RowKit

theorem LRd.keeps {F : Nat → Prop} {w w' : World} {A : Option Addr} {ls : List (List UInt8)} (h : LRd w A ls) (k : Keeps F w w') (hF : ∀ i, i < w.heap.size → ¬ F i) : LRd w' A ls := by
  obtain ⟨vs, hl, hv, hb⟩ := h
  exact ⟨vs, hl, hv.below (k.below hF), fun i hi hi' => (hb i hi hi').below (k.below hF)⟩
theorem LRd.one {w : World} {A : Option Addr} {c : Nat} {xs : List UInt8} (h : Bts w (.slice A xs.length c) xs) (e : TypeId) :
    LRd (w.alloc (.cells #[.slice A xs.length c] e)) (some ⟨w.heap.size, 0, none⟩) [xs] :=
  ⟨[.slice A xs.length c], rfl, one_vrd, fun i hi hi' => by
    cases i with
    | zero => exact h.keeps ((Keeps.refl NoB w).alloc _) (fun _ _ _ _ _ f => f)
    | succ i => simp at hi⟩
theorem LRd.one_at {w : World} {A : Option Addr} {c g : Nat} {xs : List UInt8} (hg : g = w.heap.size) (h : Bts w (.slice A xs.length c) xs) (e : TypeId) :
    LRd (w.alloc (.cells #[.slice A xs.length c] e)) (some ⟨g, 0, none⟩) [xs] := by subst hg; exact LRd.one h e
theorem OwnV.bts {w : World} {v : Value} {xs : List UInt8} (h : OwnV w 5 v (bvs xs)) : Bts w v xs := h.own.bts

theorem u8v_of (n m : Nat) (h : m = n % 256) : Value.int .u8 (m : Int) = u8v (UInt8.ofNat n) := by
  subst h; simp [u8v]
theorem four_vals (s : Nat) (hs : s ≤ 1048576) : [Value.int .u8 ((s : Int) / 16777216), .int .u8 ((s : Int) / 65536), .int .u8 ((s : Int) / 256 % 256), .int .u8 ((s : Int) % 256)] = bvs (four s) := by
  have e1 := u8v_of (s / 16777216) (s / 16777216) (by omega)
  have e2 := u8v_of (s / 65536) (s / 65536) (by omega)
  have e3 := u8v_of (s / 256) (s / 256 % 256) rfl
  have e4 := u8v_of s (s % 256) rfl
  show _ = [u8v _, u8v _, u8v _, u8v _]
  rw [← e1, ← e2, ← e3, ← e4]
  simp
theorem turned_vals (s : Nat) (hs : s < 4294967296) : [Value.int .u8 ((s : Int) % 256), .int .u8 ((s : Int) / 256 % 256), .int .u8 ((s : Int) / 65536 % 256), .int .u8 ((s : Int) / 16777216)] = bvs (turned s) := by
  have e1 := u8v_of (s / 16777216) (s / 16777216) (by omega)
  have e2 := u8v_of (s / 65536) (s / 65536 % 256) rfl
  have e3 := u8v_of (s / 256) (s / 256 % 256) rfl
  have e4 := u8v_of s (s % 256) rfl
  show _ = [u8v _, u8v _, u8v _, u8v _]
  rw [← e1, ← e2, ← e3, ← e4]
  simp
theorem new_many {w : World} {cs : List Value} {e : TypeId} {g j : Nat} {x : Value} (hg : g = w.heap.size) (h : cs[j]? = some x) : (w.alloc (.cells cs.toArray e)).cell? ((⟨g, 0, none⟩ : Addr).add j) = some x := by
  subst hg
  rw [add_lit, blk_cell (heap_alloc_new w _)]
  simpa using h
theorem many1 {k : IntKind} {a b c d : Int} : ∀ u ∈ [Value.int k a, .int k b, .int k c, .int k d], u.oneCell' = true := by
  intro u hu
  simp at hu
  rcases hu with rfl | rfl | rfl | rfl <;> rfl

set_option maxHeartbeats 4000000 in
set_option maxRecDepth 100000 in
theorem seal_any (w : World) (A : Option Addr) (c : Nat) (ls : List (List UInt8)) (hr : LRd w A ls) (hl : ls.length ≤ 140737488355328) :
    Calls Try.prog 40 #[.slice A ls.length c] w fun e w' => (1048576 < ls.flatten.length ∧ e = .returned (.tuple #[.slice none 0 0, .int .i64 1]) ∧ w = w') ∨
      (ls.flatten.length ≤ 1048576 ∧ ∃ A' c', e = .returned (.tuple #[.slice A' (sealL ls.flatten).length c', .int .i64 0]) ∧ OwnV w' 5 (.slice A' (sealL ls.flatten).length c') (bvs (sealL ls.flatten)) ∧ Fresh w (.slice A' (sealL ls.flatten).length c') ∧ Keeps NoB w w') := by
  have HR := Sd.mk hr
  clear hr
  go_enter Try.func40, Try.ntmps40
  go_wp2_with fail
  go_loopg [4, 13] ls.length (fun gk v i wr => ∃ (k : Nat) (s : Nat), gk + k = ls.length ∧ i = .int .i64 k ∧ v = .int .i64 s ∧ s ≤ 1048576 ∧ Sd (s = (ls.take k).flatten.length) ∧ Sd (w = wr))
  case atStart => exact ⟨0, 0, rfl, rfl, rfl, by decide, ⟨rfl⟩, ⟨rfl⟩⟩
  case round =>
    obtain ⟨k, s, hk, rfl, rfl, hs, hcs, ⟨rfl⟩⟩ := hrel
    by_cases hlt : k < ls.length
    · have hq : (k : Int) < (ls.length : Int) := by omega
      obtain ⟨b1, o1, A1, c1, rfl, hc, hb⟩ := HR.o.at_ k hlt
      have htk : Sd ((ls.take (k + 1)).flatten = (ls.take k).flatten ++ ls[k]) := ⟨flatten_take ls k hlt⟩
      have hto : Sd ((ls.take k).flatten.length + ls[k].length ≤ ls.flatten.length) := ⟨by
        have e := congrArg List.length (flatten_take ls k hlt)
        have e2 : ls.flatten = (ls.take (k + 1)).flatten ++ (ls.drop (k + 1)).flatten := by rw [← List.flatten_append, List.take_append_drop]
        rw [e2, List.length_append, e, List.length_append]; omega⟩
      generalize ls[k] = l0 at *
      have hl0 : l0.length ≤ 9223372036854775807 := by have := hb.rd; unfold maxLen at this; omega
      clear hb
      by_cases hbig : 1048576 - s < l0.length
      · have hq2 : (1048576 : Int) - (s : Int) < (l0.length : Int) := by omega
        have hfin : Sd (1048576 < ls.flatten.length) := ⟨by have := hto.o; rw [← hcs.o] at this; omega⟩
        clear hbig
        go_wp2
        go_ret2
        exact .inl ⟨hfin.o, rfl, rfl⟩
      · have hq2 : ¬ (1048576 : Int) - (s : Int) < (l0.length : Int) := by omega
        have hb2 : s + l0.length ≤ 1048576 := by omega
        clear hbig
        go_wp2
        go_roundg (gk - 1)
        case measure => omega
        case rel => exact ⟨k + 1, s + l0.length, by omega, by go_num, by go_num, hb2, ⟨by rw [htk.o, List.length_append, hcs.o]⟩, ⟨rfl⟩⟩
    · have hq : ¬ (k : Int) < (ls.length : Int) := by omega
      have he : Sd (ls.take k = ls) := ⟨List.take_of_length_le (by omega)⟩
      have hn : Sd (s = ls.flatten.length) := ⟨by rw [hcs.o, he.o]⟩
      clear hcs
      have hfour : Sd ([Value.int .u8 ((s : Int) / 16777216), .int .u8 ((s : Int) / 65536), .int .u8 ((s : Int) / 256 % 256), .int .u8 ((s : Int) % 256)] = bvs (four s)) := ⟨four_vals s hs⟩
      go_wp2_with fail
      have HO0 : OwnV (w.alloc (.cells #[Value.int .u8 ((s : Int) / 16777216), .int .u8 ((s : Int) / 65536), .int .u8 ((s : Int) / 256 % 256), .int .u8 ((s : Int) % 256)] 5)) 5 (.slice (some ⟨w.heap.size, 0, none⟩) (four s).length 4) (bvs (four s)) := by
        have := own_lit w 5 (bvs (four s)) (by rw [bvs_length]; show 4 ≤ _; decide)
        rw [← hfour.o] at this
        rw [← hfour.o]
        exact this
      have HOS := Sd.mk HO0
      clear HO0
      go_loopg [7, 41] ls.length (fun gk v i wr => ∃ (k : Nat) (ys : List UInt8) (A1 : Option Addr) (c1 : Nat), gk + k = ls.length ∧ i = .int .i64 k ∧ v = .slice A1 ys.length c1 ∧ Sd (ys = four s ++ (ls.take k).flatten) ∧ Sd (OwnV wr 5 (.slice A1 ys.length c1) (bvs ys)) ∧ Sd (Keeps NoB w wr) ∧ Sd (Fresh w (.slice A1 ys.length c1)))
      case atStart => exact ⟨0, four s, _, _, rfl, rfl, rfl, ⟨by simp⟩, HOS, ⟨(Keeps.refl NoB w).alloc _⟩, ⟨fresh_lit w _ _⟩⟩
      case round =>
        clear HOS
        obtain ⟨k, ys, A1, c1, hk, rfl, rfl, hys, HO, HK, HF⟩ := hrel
        have hyl : ys.length ≤ 4 + s := by
          have e2 : ls.flatten = (ls.take k).flatten ++ (ls.drop k).flatten := by rw [← List.flatten_append, List.take_append_drop]
          rw [hys.o, hn.o, e2]; simp [four]; omega
        by_cases hlt : k < ls.length
        · have hq : (k : Int) < (ls.length : Int) := by omega
          obtain ⟨b1, o1, A2, c2, rfl, hc, hb⟩ := (HR.o.keeps HK.o (fun _ _ f => f)).at_ k hlt
          have htk : Sd ((ls.take (k + 1)).flatten = (ls.take k).flatten ++ ls[k]) := ⟨flatten_take ls k hlt⟩
          have hto : (ls.take k).flatten.length + ls[k].length ≤ s := by
            have e := congrArg List.length (flatten_take ls k hlt)
            have e2 : ls.flatten = (ls.take (k + 1)).flatten ++ (ls.drop (k + 1)).flatten := by rw [← List.flatten_append, List.take_append_drop]
            rw [hn.o, e2, List.length_append, e, List.length_append]; omega
          have hl0 : ls[k].length ≤ 1048576 := by omega
          clear hto
          generalize ls[k] = l0 at *
          have HB := Sd.mk hb
          clear hb
          go_wp2_with (at_builtin; go_must (refine app_any rfl _ _ 26 5 (.int .u8 0) 1 rfl Try.underlying26 infoU8' rfl (.slice A1 ys.length c1) (bvs ys) rfl HO.o A2 l0.length c2 (bvs l0) rfl (bvs_length l0) (rd_vrd HB.o.rd.2.2.2.2.2) (bvs_one l0) (by rw [bvs_length]; omega) (by rw [bvs_length]; omega) ?_))
          intro A3 c3 w3 HO3 HK3 HG3
          have HO3' := Sd.mk HO3
          have HK3' := Sd.mk HK3
          have HG3' := Sd.mk HG3
          clear HO3 HK3 HG3
          go_wp2
          go_roundg (gk - 1)
          case measure => omega
          case rel =>
            have e1 : (bvs ys).length + l0.length = (ys ++ l0).length := by rw [bvs_length, List.length_append]
            rw [e1] at HO3' HG3' ⊢
            rw [← bvs_append] at HO3'
            exact ⟨k + 1, ys ++ l0, A3, c3, by omega, by go_num, rfl, ⟨by rw [htk.o, hys.o, List.append_assoc]⟩, HO3', ⟨HK.o.fresh HF.o HK3'.o⟩, ⟨HF.o.grew HK.o.size HG3'.o⟩⟩
        · have hq : ¬ (k : Int) < (ls.length : Int) := by omega
          have he : Sd (ls.take k = ls) := ⟨List.take_of_length_le (by omega)⟩
          have hy2 : Sd (ys = four ls.flatten.length ++ ls.flatten) := ⟨by rw [hys.o, he.o, hn.o]⟩
          clear hys
          go_wp2_with fail
          refine (crc_any _ _ _ [ys] (LRd.one HO.o.bts _) (by simp)).mono ?_
          rintro e w2 ⟨rfl, rfl⟩
          have hcl := crc_lt ys
          have ef : [ys].flatten = ys := by simp
          rw [ef]
          have hturn : Sd ([Value.int .u8 ((crc ys : Int) % 256), .int .u8 ((crc ys : Int) / 256 % 256), .int .u8 ((crc ys : Int) / 65536 % 256), .int .u8 ((crc ys : Int) / 16777216)] = bvs (turned (crc ys))) := ⟨turned_vals _ hcl⟩
          have hyy : Sd (sealL ls.flatten = ys ++ turned (crc ys)) := ⟨by unfold sealL; rw [← hy2.o]⟩
          clear ef
          generalize crc ys = C at *
          go_wp2_with (at_builtin; go_must (refine app_row rfl _ _ 26 5 (.int .u8 0) 1 rfl Try.underlying26 infoU8' rfl (.slice A1 ys.length c1) (bvs ys) rfl ((HO.o.keeps (((Keeps.refl NoB _).alloc _).alloc _) (fun _ _ f => f))) ⟨_, 0, none⟩ 4 4 [Value.int .u8 ((C : Int) % 256), .int .u8 ((C : Int) / 256 % 256), .int .u8 ((C : Int) / 65536 % 256), .int .u8 ((C : Int) / 16777216)] rfl rfl (fun _ _ hj => new_many (by simp) hj) many1 (by rw [bvs_length]; omega) (by rw [bvs_length]; omega) ?_))
          intro A3 c3 w3 HO3 HK3 HG3
          have HO3' := Sd.mk HO3
          have HK3' := Sd.mk HK3
          have HG3' := Sd.mk HG3
          clear HO3 HK3 HG3
          go_wp2
          go_ret2
          have e1 : (bvs ys).length + 4 = (ys ++ turned C).length := by rw [bvs_length, List.length_append]; rfl
          rw [e1] at HO3' HG3'
          rw [hturn.o, ← bvs_append] at HO3'
          rw [hyy.o]
          exact .inr ⟨by rw [← hn.o]; exact hs, A3, c3, by rw [← e1]; rfl, HO3'.o, HF.o.grew HK.o.size HG3'.o.undoalloc.undoalloc, HK.o.fresh HF.o HK3'.o.undoalloc.undoalloc⟩
end Go.Proofs.Ytdjamijbhaplgaa
