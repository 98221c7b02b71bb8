/- OctetReads: the walk. -/
import Derived.Test.YtlnmjeiiagkipaaWBursts
import Derived.Test.YtlnmjeiiagkipaaOctX
import Derived.Deep.RegionHeld3
import Derived.Deep.RegionLaw
import Derived.Deep.DeepCutAuto
import Derived.Deep.CutBlock
namespace Go.Proofs.Ytlnmjeiiagkipaa.octetReads
open Go.RowKit
/-- Steps, read from A on. -/
def SRd (w : World) (A : Option Addr) (l : List (Int × Int)) : Prop :=
  ∀ i (h : i < l.length), ∃ b o, A = some ⟨b, o, none⟩ ∧ w.cell? ⟨b, o + i * 2, none⟩ = some (.int .i64 l[i].1) ∧ w.cell? ⟨b, o + i * 2 + 1, none⟩ = some (.int .i64 l[i].2)
theorem byte_p (s : RSt) : s.byte.2.p = s.p := by
  unfold RSt.byte
  split
  · split <;> rfl
  · rfl
theorem fail_p (s : RSt) (e : Int) : (s.fail e).p = s.p := by unfold RSt.fail; split <;> rfl
theorem fail_pos (s : RSt) (e : Int) : (s.fail e).pos = s.pos := by unfold RSt.fail; split <;> rfl
theorem text_p (s : RSt) (m : Int) : (s.text m).2.p = s.p := by
  unfold RSt.text
  split
  · split
    · exact s.count_p m
    · exact s.count_p m
  · exact s.count_p m
/-- Two readers in one state. -/
structure Two (w : World) (b1 b2 : Nat) (bs : List UInt8) (s : RSt) (A1 A2 : Option Addr) (c1 c2 : Nat) : Prop where
  one : IsRd w b1 s A1 c1
  two : IsRR w b2 s A2 c2
  p : s.p = bs
  ne : b1 < b2
  o12 : OffR (OneB b1) (.slice A2 bs.length c2)
  o21 : OffR (OneB b2) (.slice A1 bs.length c1)
theorem Two.step1 {w w' : World} {b1 b2 : Nat} {bs : List UInt8} {s : RSt} {A1 A2 : Option Addr} {c1 c2 : Nat} (h : Two w b1 b2 bs s A1 A2 c1 c2) (k : Keeps (OneB b1) w w') : IsRR w' b2 s A2 c2 :=
  h.two.keeps k (fun f => by cases f; exact Nat.lt_irrefl _ h.ne) (by rw [h.p]; exact h.o12)
theorem Two.step2 {w w1 w2 : World} {b1 b2 : Nat} {bs : List UInt8} {s s' : RSt} {A1 A2 : Option Addr} {c1 c2 : Nat} (h : Two w b1 b2 bs s A1 A2 c1 c2) (h1 : IsRd w1 b1 s' A1 c1) (k2 : Keeps (OneB b2) w1 w2) (h2 : IsRR w2 b2 s' A2 c2) (hp : s'.p = s.p) : Two w2 b1 b2 bs s' A1 A2 c1 c2 :=
  ⟨h1.keeps k2 (fun f => by cases f; exact Nat.lt_irrefl _ h.ne) (by rw [hp, h.p]; exact h.o21), h2, by rw [hp, h.p], h.ne, h.o12, h.o21⟩
theorem Two.drew {w : World} {b1 b2 : Nat} {bs : List UInt8} {s : RSt} {A1 A2 : Option Addr} {c1 c2 : Nat} (h : Two w b1 b2 bs s A1 A2 c1 c2) : Two w.drew b1 b2 bs s A1 A2 c1 c2 :=
  ⟨h.one.drewN 1, h.two.drewN 1, h.p, h.ne, h.o12, h.o21⟩
theorem Two.drewN {w : World} {b1 b2 : Nat} {bs : List UInt8} {s : RSt} {A1 A2 : Option Addr} {c1 c2 : Nat} (h : Two w b1 b2 bs s A1 A2 c1 c2) (n : Nat) : Two (w.drewN n) b1 b2 bs s A1 A2 c1 c2 :=
  ⟨h.one.drewN n, h.two.drewN n, h.p, h.ne, h.o12, h.o21⟩
theorem Keeps.two {w w1 w2 w3 : World} {b1 b2 : Nat} (h : Keeps NoB w w1) (k1 : Keeps (OneB b1) w1 w2) (k2 : Keeps (OneB b2) w2 w3) (g1 : w.heap.size ≤ b1) (g2 : w.heap.size ≤ b2) : Keeps NoB w w3 :=
  (h.trans (H := NoB) k1 (fun _ _ f => f) (fun i hi f => by cases f; omega)).trans k2 (fun _ _ f => f) (fun i hi f => by cases f; omega)

set_option maxHeartbeats 8000000 in
set_option maxRecDepth 100000 in
theorem walk (w : World) (A0 : Option Addr) (c0 : Nat) (bs : List UInt8) (h0 : Bts w (.slice A0 bs.length c0) bs) (A1 : Option Addr) (c1 : Nat) (l : List (Int × Int)) (h1 : SRd w A1 l)
    (hl : ∀ x ∈ l, (-9223372036854775808 ≤ x.1 ∧ x.1 ≤ 9223372036854775807) ∧ (-9223372036854775808 ≤ x.2 ∧ x.2 ≤ 9223372036854775807)) (l1 : l.length ≤ 9223372036854775807) :
    Calls Try.prog 8 #[.slice A0 bs.length c0, .slice A1 l.length c1] w fun e w' => e = .returned (.bool true) ∧ Keeps NoB w w' := by
  have H0 := Sd.mk h0
  have H1 := Sd.mk h1
  have HL := Sd.mk hl
  have hm : bs.length ≤ 9223372036854775807 := by have := h0.rd; unfold maxLen at this; omega
  clear h0 h1 hl
  by_cases g1 : 20000 < bs.length
  · have hq : decide ((20000 : Int) < (bs.length : Int)) = true := by simp; omega
    go_enter Try.func8, Try.ntmps8
    go_wp2_with (go_at_call 12; refine (live_any _).mono ?_; rintro e w' ⟨rfl, hk'⟩)
    go_ret
    exact ⟨rfl, hk'⟩
  have hq : decide ((20000 : Int) < (bs.length : Int)) = false := by simp; omega
  by_cases g2 : 60 < l.length
  · have hq2 : decide ((60 : Int) < (l.length : Int)) = true := by simp; omega
    go_enter Try.func8, Try.ntmps8
    go_wp2_with (go_at_call 12; refine (live_any _).mono ?_; rintro e w' ⟨rfl, hk'⟩)
    go_ret
    exact ⟨rfl, hk'⟩
  have hq2 : decide ((60 : Int) < (l.length : Int)) = false := by simp; omega
  have hbl : bs.length ≤ 20000 := by omega
  have hll : l.length ≤ 60 := by omega
  clear g1 g2
  go_enter Try.func8, Try.ntmps8
  go_wp2_with (at_builtin; go_must (refine app_lit0 rfl _ _ 22 5 (.int .u8 0) 1 rfl Try.underlying22 infoU8' rfl w.heap.size rfl rfl A0 bs.length c0 (bvs bs) rfl (bvs_length bs) (rd_vrd H0.o.rd.2.2.2.2.2) (bvs_one bs) (by omega) (by omega) ?_); intro R0 d0 w3 HO HK HF; have HP := Sd.mk (And.intro HO (And.intro HK HF)); clear HO HK HF)
  refine (new_any _ R0 _ d0 bs HP.o.1.bts (by omega)).mono ?_
  rintro e w4 ⟨b1, R1, d1, rfl, hI4, hB4, hb4, hf4⟩
  have HI4 := Sd.mk hI4
  have HK4 := Sd.mk (Keeps.of_below hB4 NoB)
  have HF4 := Sd.mk (And.intro hb4 hf4)
  have hb4s := Sd.mk (show b1 < w4.heap.size from (Array.getElem?_eq_some_iff.1 hI4.blk).1)
  clear hI4 hB4 hb4 hf4
  go_wp2_with fail
  refine (rnew_any _ A0 _ c0 bs (H0.o.kept (HP.o.2.1.then HK4.o)) (by omega)).mono ?_
  rintro e w5 ⟨b2, R2, d2, rfl, hI5, hK5, hb5, hf5⟩
  have HOF4 : Sd (OffR (OneB b2) (.slice R1 bs.length d1)) := ⟨fun a n c e hc f => by
    cases e
    have := (HI4.o.bts.rd.2.2.2.2.1 hc a rfl).2
    cases f
    omega⟩
  have HTW : Sd (Two w5 b1 b2 bs ⟨bs, 0, 0, 0⟩ R1 R2 d1 d2) := ⟨⟨HI4.o.keeps hK5 (fun f => f) (fun _ _ _ _ _ f => f), hI5, rfl, by have := hb4s.o; omega, (fun a n c' e _ f => by
    cases e
    have := hf5 a.block rfl
    have := hb4s.o
    cases f
    omega), HOF4.o⟩⟩
  have HOW : Sd (OwnV w5 5 (.slice R0 bs.length d0) (bvs bs)) := ⟨(HP.o.1.kept HK4.o).kept hK5⟩
  have HLT : Sd (∀ k, ownB (.slice R0 bs.length d0) k → k < w3.heap.size) := ⟨fun k hk => HP.o.1.lt k hk⟩
  have HK5 : Sd (Keeps NoB w w5) := ⟨(HP.o.2.1.then HK4.o).then hK5⟩
  have HFR : Sd (Fresh w (.slice R0 bs.length d0)) := ⟨HP.o.2.2⟩
  have HG : Sd (w3.heap.size ≤ b1 ∧ w3.heap.size ≤ b2 ∧ (∀ k, (Value.slice R1 bs.length d1).ownBlock = some k → w3.heap.size ≤ k) ∧ (∀ k, (Value.slice R2 bs.length d2).ownBlock = some k → w3.heap.size ≤ k)) :=
    ⟨HF4.o.1, by have := HK4.o.size; omega, HF4.o.2, fun k hk => by have := hf5 k hk; have := HK4.o.size; omega⟩
  have HB2 : Sd (w.heap.size ≤ b1 ∧ w.heap.size ≤ b2) := ⟨by have := HP.o.2.1.size; have := HG.o; omega⟩
  clear hI5 hK5 hb5 hf5 HI4 HK4 HF4 hb4s HP HOF4
  go_wp2_with fail
  go_loopg [8] bs.length (fun gk i wr => ∃ (k : Nat) (zs : List UInt8), gk + k = bs.length ∧ i = .int .i64 k ∧ Sd (zs.length = bs.length) ∧ Sd (OwnV wr 5 (.slice R0 bs.length d0) (bvs zs)) ∧ Sd (Keeps (ownB (.slice R0 bs.length d0)) w5 wr))
  case atStart => exact ⟨0, bs, by omega, rfl, ⟨rfl⟩, HOW, ⟨Keeps.refl _ _⟩⟩
  case round =>
    clear HOW
    obtain ⟨k, zs, hk, rfl, hzl, HOW, HKW⟩ := hrel
    by_cases hlt : k < bs.length
    · have hq3 : (k : Int) < (bs.length : Int) := by omega
      have hkz : k < zs.length := by rw [hzl.o]; exact hlt
      have hzp : 0 < zs.length := by omega
      obtain ⟨g, cur, rfl, -, hg, hnc, hcm, hcs, ht⟩ := HOW.o.blk hzp
      have hcell : wr.cell? ⟨g, k, none⟩ = some (.int .u8 (zs[k].toNat : Int)) := by
        rw [blk_cell hg]
        have h1 : (cur.toList.take bs.length)[k]? = (bvs zs)[k]? := by rw [ht]
        rw [List.getElem?_take, if_pos hlt] at h1
        simpa [bvs, u8v, hkz] using h1
      have hfz := blk_frozen hg k
      have HGG := Sd.mk hg
      have HTT := Sd.mk ht
      have HCS := Sd.mk hcs
      clear hg ht hcs hzp
      generalize zs[k] = x at *
      clear hkz
      go_wp2_with fail
      go_roundg (gk - 1)
      case measure => omega
      case rel =>
        have hxl : x.toNat < 2 ^ 8 := x.toNat_lt
        have hxx : x.toNat ^^^ 85 < 2 ^ 8 := Nat.xor_lt_two_pow hxl (by decide)
        have hu : Value.int .u8 (bits .xor .u8 (x.toNat : Int) 85) = u8v (UInt8.ofNat (x.toNat ^^^ 85)) := by
          unfold u8v
          have := xor_u8 x.toNat 85 hxl (by decide)
          rw [show ((85 : Nat) : Int) = 85 from rfl] at this
          rw [this, UInt8.toNat_ofNat', Nat.mod_eq_of_lt hxx]
        refine ⟨k + 1, zs.set k (UInt8.ofNat (x.toNat ^^^ 85)), by omega, by go_num, ⟨by rw [List.length_set]; exact hzl.o⟩, ⟨own_set HGG.o hzl.o.symm hnc hcm HCS.o HTT.o _ _ hu⟩, ⟨HKW.o.setCell ⟨g, k, none⟩ _ (fun _ => rfl)⟩⟩
    · have hq3 : ¬ (k : Int) < (bs.length : Int) := by omega
      have HK6 : Sd (Keeps NoB w wr) := ⟨HK5.o.fresh HFR.o HKW.o⟩
      have hno : ∀ k, w3.heap.size ≤ k → ¬ ownB (.slice R0 bs.length d0) k := fun k hk f => by have := HLT.o k f; omega
      have HTW6 : Sd (Two wr b1 b2 bs ⟨bs, 0, 0, 0⟩ R1 R2 d1 d2) := ⟨⟨HTW.o.one.keeps HKW.o (hno _ HG.o.1) (fun a n c e _ => by cases e; exact hno _ (HG.o.2.2.1 _ rfl)), HTW.o.two.keeps HKW.o (hno _ HG.o.2.1) (fun a n c e _ => by cases e; exact hno _ (HG.o.2.2.2 _ rfl)), rfl, HTW.o.ne, HTW.o.o12, HTW.o.o21⟩⟩
      clear HKW HOW HTW HK5 HFR HG HLT hlt hk hzl hno
      go_wp2_with fail
      go_loopg [9] 60 (fun gk i wr => ∃ (k : Nat) (s : RSt), gk + k = 60 ∧ i = .int .i64 k ∧ k ≤ l.length ∧ Sd (Two wr b1 b2 bs s R1 R2 d1 d2) ∧ Sd (Keeps NoB w wr))
      case atStart => exact ⟨0, _, by omega, rfl, by omega, HTW6, HK6⟩
      case round =>
        clear HTW6 HK6
        obtain ⟨k, s, hk, rfl, hkl, HT, HK⟩ := hrel
        by_cases hlt : k < l.length
        · have hq4 : (k : Int) < (l.length : Int) := by omega
          obtain ⟨bb, oo, rfl, hc0, hc1⟩ := H1.o k hlt
          have hbd := Sd.mk (HL.o _ (List.getElem_mem hlt))
          have hcK : wr.cell? ⟨bb, oo + k * 2, none⟩ = some (.int .i64 l[k].1) := HK.o.cell hc0 (fun f => f)
          have hcM : wr.cell? ⟨bb, oo + k * 2 + 1, none⟩ = some (.int .i64 l[k].2) := HK.o.cell hc1 (fun f => f)
          have hbb : bb < w.heap.size := by have := World.block_lt_of_cell? w _ hc0; simpa using this
          clear hc0 hc1
          generalize l[k] = x at *
          obtain ⟨kind, most⟩ := x
          dsimp only at hcK hcM hbd
          go_upto_block 4 with fail
          go_cut [10] (fun sx wx => ∃ s', sx = .bool true ∧ Sd (Two wx b1 b2 bs s' R1 R2 d1 d2) ∧ Sd (Keeps NoB w wx))
          case first =>
            by_cases k0 : kind = 0
            · subst k0
              go_wp2_with fail
              refine (num_some wr b1 s R1 d1 HT.o.one).mono ?_
              rintro e w6 ⟨rfl, hI6, hK6⟩
              have HI6 := Sd.mk hI6
              have HK6 := Sd.mk hK6
              clear hI6 hK6
              go_wp2_with fail
              refine (rnum_some w6 b2 s R2 d2 (HT.o.step1 HK6.o)).mono ?_
              rintro e w7 ⟨rfl, hI7, hK7⟩
              have HI7 := Sd.mk hI7
              have HK7 := Sd.mk hK7
              clear hI7 hK7
              go_wp2_with fail
              go_meet
              exact ⟨_, rfl, ⟨HT.o.step2 HI6.o HK7.o HI7.o (s.num_p)⟩, ⟨Keeps.two HK.o HK6.o HK7.o HB2.o.1 HB2.o.2⟩⟩
            have n0 : (kind == 0) = false := by simp [k0]
            by_cases k1 : kind = 1
            · subst k1
              go_wp2_with fail
              refine (int_some wr b1 s R1 d1 HT.o.one).mono ?_
              rintro e w6 ⟨rfl, hI6, hK6⟩
              have HI6 := Sd.mk hI6
              have HK6 := Sd.mk hK6
              clear hI6 hK6
              go_wp2_with fail
              refine (rint_some w6 b2 s R2 d2 (HT.o.step1 HK6.o)).mono ?_
              rintro e w7 ⟨rfl, hI7, hK7⟩
              have HI7 := Sd.mk hI7
              have HK7 := Sd.mk hK7
              clear hI7 hK7
              go_wp2_with fail
              go_meet
              exact ⟨_, rfl, ⟨HT.o.step2 HI6.o HK7.o HI7.o (s.num_p)⟩, ⟨Keeps.two HK.o HK6.o HK7.o HB2.o.1 HB2.o.2⟩⟩
            have n1 : (kind == 1) = false := by simp [k1]
            by_cases k2 : kind = 2
            · subst k2
              obtain ⟨nb, hnb⟩ : ∃ nb : Int, u8v s.byte.1 = .int .u8 nb := ⟨_, rfl⟩
              have HNB := Sd.mk hnb
              clear hnb
              go_wp2_with fail
              refine (byte_some wr b1 s R1 d1 HT.o.one).mono ?_
              rw [HNB.o]
              rintro e w6 ⟨rfl, hI6, hK6⟩
              have HI6 := Sd.mk hI6
              have HK6 := Sd.mk hK6
              clear hI6 hK6
              go_wp2_with fail
              refine (rbyte_some w6 b2 s R2 d2 (HT.o.step1 HK6.o)).mono ?_
              rw [HNB.o]
              rintro e w7 ⟨rfl, hI7, hK7⟩
              have HI7 := Sd.mk hI7
              have HK7 := Sd.mk hK7
              clear hI7 hK7
              go_wp2_with fail
              go_meet
              exact ⟨_, rfl, ⟨HT.o.step2 HI6.o HK7.o HI7.o (byte_p s)⟩, ⟨Keeps.two HK.o HK6.o HK7.o HB2.o.1 HB2.o.2⟩⟩
            have n2 : (kind == 2) = false := by simp [k2]
            by_cases k3 : kind = 3
            · subst k3
              have HC6 := Sd.mk (text_some wr.drew b1 s R1 d1 HT.o.drew.one most hbd.o.2.1 hbd.o.2.2)
              go_wp2_with fail
              go_region_held3 (fun w' => w'.cell? ⟨bb, oo + k * 2 + 1, none⟩ = some (.int .i64 most)) (first | assumption | exact hc6 | exact hc7)
                (first
                  | (go_at_call 23
                     refine HC6.o.mono ?_
                     rintro e w6 ⟨rfl, hI6, hK6⟩
                     have hc6 : w6.cell? ⟨bb, oo + k * 2 + 1, none⟩ = some (.int .i64 most) := hK6.cell (show wr.drew.cell? _ = some _ from hcM) (fun f => by have h := HB2.o; have f' : bb = b1 := f; omega)
                     have HI6 := Sd.mk hI6
                     have HK6 := Sd.mk hK6
                     clear hI6 hK6)
                  | (go_at_call 40
                     refine (rtext_some w6 b2 s R2 d2 (HT.o.drew.step1 HK6.o) most hbd.o.2.1 hbd.o.2.2).mono ?_
                     rintro e w7 ⟨rfl, hI7, hK7⟩
                     have hc7 : w7.cell? ⟨bb, oo + k * 2 + 1, none⟩ = some (.int .i64 most) := hK7.cell hc6 (fun f => by have h := HB2.o; have f' : bb = b2 := f; omega)
                     have HI7 := Sd.mk hI7
                     have HK7 := Sd.mk hK7
                     clear hI7 hK7))
              go_wp2_with fail
              go_meet
              exact ⟨_, rfl, ⟨HT.o.drew.step2 HI6.o HK7.o HI7.o (text_p s most)⟩, ⟨Keeps.two HK.o.drew HK6.o HK7.o HB2.o.1 HB2.o.2⟩⟩
            have n3 : (kind == 3) = false := by simp [k3]
            by_cases k4 : kind = 4
            · subst k4
              have HC6 := Sd.mk (count_some wr.drew b1 s R1 d1 HT.o.drew.one most hbd.o.2.1 hbd.o.2.2)
              go_wp2_with fail
              go_region_held3 (fun w' => w'.cell? ⟨bb, oo + k * 2 + 1, none⟩ = some (.int .i64 most)) (first | assumption | exact hc6 | exact hc7)
                (first
                  | (go_at_call 41
                     refine HC6.o.mono ?_
                     rintro e w6 ⟨rfl, hI6, hK6⟩
                     have hc6 : w6.cell? ⟨bb, oo + k * 2 + 1, none⟩ = some (.int .i64 most) := hK6.cell (show wr.drew.cell? _ = some _ from hcM) (fun f => by have h := HB2.o; have f' : bb = b1 := f; omega)
                     have HI6 := Sd.mk hI6
                     have HK6 := Sd.mk hK6
                     clear hI6 hK6)
                  | (go_at_call 42
                     refine (rcount_some w6 b2 s R2 d2 (HT.o.drew.step1 HK6.o) most hbd.o.2.1 hbd.o.2.2).mono ?_
                     rintro e w7 ⟨rfl, hI7, hK7⟩
                     have hc7 : w7.cell? ⟨bb, oo + k * 2 + 1, none⟩ = some (.int .i64 most) := hK7.cell hc6 (fun f => by have h := HB2.o; have f' : bb = b2 := f; omega)
                     have HI7 := Sd.mk hI7
                     have HK7 := Sd.mk hK7
                     clear hI7 hK7))
              go_wp2_with fail
              go_meet
              exact ⟨_, rfl, ⟨HT.o.drew.step2 HI6.o HK7.o HI7.o (s.count_p most)⟩, ⟨Keeps.two HK.o.drew HK6.o HK7.o HB2.o.1 HB2.o.2⟩⟩
            have n4 : (kind == 4) = false := by simp [k4]
            by_cases k5 : kind = 5
            · subst k5
              go_wp2_with fail
              refine (fail_some wr b1 s R1 d1 HT.o.one most hbd.o.2.1 hbd.o.2.2).mono ?_
              rintro e w6 ⟨rfl, hI6, hK6⟩
              have hc6 : w6.cell? ⟨bb, oo + k * 2 + 1, none⟩ = some (.int .i64 most) := hK6.cell hcM (fun f => by have h := HB2.o; have f' : bb = b1 := f; omega)
              have HI6 := Sd.mk hI6
              have HK6 := Sd.mk hK6
              have HR6 := Sd.mk (HT.o.step1 hK6)
              have hp6 : w6.cell? ⟨b2, 1, none⟩ = some (.int .i64 s.pos) := blk_cell HR6.o.blk 1
              clear hI6 hK6
              go_wp2_with fail
              go_region_held3 (fun w' => w'.cell? ⟨bb, oo + k * 2 + 1, none⟩ = some (.int .i64 most) ∧ w'.cell? ⟨b2, 1, none⟩ = some (.int .i64 s.pos)) (first | assumption | exact ⟨hc6, hp6⟩ | exact hc7)
                (first
                  | (go_at_call 44
                     refine (rfail_some w6.drew b2 s R2 d2 (HR6.o.drewN 1) most hbd.o.2.1 hbd.o.2.2).mono ?_
                     rintro e w7 ⟨rfl, hI7, hK7⟩
                     have hc7 : w7.cell? ⟨bb, oo + k * 2 + 1, none⟩ = some (.int .i64 most) ∧ w7.cell? ⟨b2, 1, none⟩ = some (.int .i64 s.pos) := ⟨hK7.cell (show w6.drew.cell? _ = some _ from hc6) (fun f => by have h := HB2.o; have f' : bb = b2 := f; omega), (by have := blk_cell hI7.blk 1; rw [this, fail_pos]; rfl)⟩
                     have HI7 := Sd.mk hI7
                     have HK7 := Sd.mk hK7
                     clear hI7 hK7))
              go_wp2_with fail
              go_meet
              exact ⟨_, rfl, ⟨HT.o.step2 HI6.o HK7.o.undrew1 HI7.o (fail_p s most)⟩, ⟨Keeps.two HK.o HK6.o HK7.o.undrew1 HB2.o.1 HB2.o.2⟩⟩
            have n5 : (kind == 5) = false := by simp [k5]
            clear k0 k1 k2 k3 k4 k5
            go_wp2_with fail
            go_meet
            exact ⟨_, rfl, HT, HK⟩
          clear HT HK hcK hcM hbd
          obtain ⟨s', rfl, HT, HK⟩ := hcut
          have hp := HT.o.p
          have hle := HT.o.one.pos
          obtain ⟨sp, pos, err, spot⟩ := s'
          dsimp only at hp hle
          subst hp
          go_wp2_with fail
          refine (why_some _ b1 _ R1 d1 HT.o.one).mono ?_
          rintro e w8 ⟨rfl, n8, rfl⟩
          have HT8 := Sd.mk (HT.o.drewN n8)
          have HK8 := Sd.mk (HK.o.drewN n8)
          clear HT HK
          generalize wc.drewN n8 = w8 at *
          have hr1 : w8.cell? ⟨b2, 1, none⟩ = some (.int .i64 pos) := blk_cell HT8.o.two.blk 1
          have hr2 : w8.cell? ⟨b2, 2, none⟩ = some (.int .i64 err) := blk_cell HT8.o.two.blk 2
          have hr3 : w8.cell? ⟨b2, 3, none⟩ = some (.int .i64 spot) := blk_cell HT8.o.two.blk 3
          have hw8 : IntKind.i64.wrap ((sp.length : Int) - (pos : Int)) = (sp.length : Int) - (pos : Int) := IntWalk.i64_in _ (by omega)
          go_wp2_with fail
          go_quiet ((first
            | (go_at_call 11; exact Calls.quiet_same (num_law _ _))
            | (go_at_call 25; exact Calls.quiet_same (at_some _ _ _ _ _ (HT8.o.one.drewN _)))
            | (go_at_call 45; exact Calls.quiet_of (left_some _ _ _ _ _ (HT8.o.one.drewN _)))
            | (go_at_call 26; exact Calls.quiet_of (done_some _ _ _ _ _ (HT8.o.one.drewN _)))
            | (go_at_call 46; exact Calls.quiet_of (rdone_some _ _ _ _ _ (HT8.o.two.drewN _)))))
          clear hw8
          go_wp2_with fail
          go_roundg (gk - 1)
          case measure => omega
          case rel => exact ⟨k + 1, ⟨sp, pos, err, spot⟩, by omega, by go_num, by omega, ⟨HT8.o.drewN _⟩, ⟨HK8.o.drewN _⟩⟩
        · have hq4 : ¬ (k : Int) < (l.length : Int) := by omega
          go_wp2_with (go_at_call 12; refine (live_any _).mono ?_; rintro e w' ⟨rfl, hk'⟩)
          go_ret
          exact ⟨rfl, HK.o.then hk'⟩
end Go.Proofs.Ytlnmjeiiagkipaa.octetReads
