/- symtab: New, add, Number, Symbol, Len. -/
import Derived.Test.YtdjamijbhaplgaaSymA
import Derived.RegionTactic
namespace Go.Proofs.Ytdjamijbhaplgaa
open Go.RowKit Go.Maps

theorem infoStr : (Try.prog.info? 9).map (fun i => (i.zero, i.size, i.bytes)) = some (some (.string ⟨#[]⟩), 1, 16) := by kernel_rfl
/-- A table in block b, its map in block mb; all its blocks are new since base. -/
structure IsT (w : World) (base b mb : Nat) (A : Option Addr) (c : Nat) (l : List (List UInt8)) : Prop where
  blk : w.heap[b]? = some (.cells #[.slice A l.length c, .map (some mb)] 62 (0, 0))
  own : OwnV w 9 (.slice A l.length c) (strs l)
  map : MapS w mb l
  ne : l ≠ []
  sz : ∀ s ∈ l, s.length ≤ 64
  b0 : base ≤ b
  m0 : base ≤ mb
  a0 : ∀ k, (Value.slice A l.length c).ownBlock = some k → base ≤ k
theorem cells_ne_map {w : World} {b mb : Nat} {l : List (List UInt8)} {cs : Array Value} {t : TypeId} {f : Nat × Nat} (h : w.heap[b]? = some (.cells cs t f)) (m : MapS w mb l) : mb ≠ b := by
  rintro rfl
  obtain ⟨D, n, ⟨es, clock, hb, _⟩, _⟩ := m
  rw [h] at hb
  simp at hb
theorem OwnV.ne_blk {w : World} {e : TypeId} {v : Value} {vs : List Value} (h : OwnV w e v vs) {b : Nat} {cs : Array Value} {t : TypeId} {f : Nat × Nat} (hb : w.heap[b]? = some (.cells cs t f)) (hne : e ≠ t) : ¬ ownB v b := by
  intro hk
  rcases h.2 with ⟨rfl, _⟩ | ⟨g, cap, cur, rfl, _, hg, _⟩
  · simp [ownB, Value.ownBlock] at hk
  · simp [ownB, Value.ownBlock] at hk
    subst hk
    rw [hb] at hg
    simp at hg
    exact hne hg.2.1.symm
theorem OwnV.ne_map {w : World} {e : TypeId} {v : Value} {vs : List Value} (h : OwnV w e v vs) {mb : Nat} {l : List (List UInt8)} (m : MapS w mb l) : ¬ ownB v mb := by
  intro hk
  obtain ⟨D, n, ⟨es, clock, hb, _⟩, _⟩ := m
  rcases h.2 with ⟨rfl, _⟩ | ⟨g, cap, cur, rfl, _, hg, _⟩
  · simp [ownB, Value.ownBlock] at hk
  · simp [ownB, Value.ownBlock] at hk
    subst hk
    rw [hb] at hg
    simp at hg
theorem IsT.keeps {F : Nat → Prop} {w w' : World} {base b mb : Nat} {A : Option Addr} {c : Nat} {l : List (List UInt8)} (h : IsT w base b mb A c l) (k : Keeps F w w') (hF : ∀ i, base ≤ i → i < w.heap.size → ¬ F i) : IsT w' base b mb A c l :=
  ⟨k.obj h.blk (hF b h.b0 (Array.getElem?_eq_some_iff.1 h.blk).1), h.own.keeps k (fun i hi => hF i (h.a0 i hi) (h.own.lt i hi)), h.map.keeps k (hF mb h.m0 h.map.lt), h.ne, h.sz, h.b0, h.m0, h.a0⟩
theorem IsT.kept {w w' : World} {base b mb : Nat} {A : Option Addr} {c : Nat} {l : List (List UInt8)} (h : IsT w base b mb A c l) (k : Keeps NoB w w') : IsT w' base b mb A c l := h.keeps k (fun _ _ _ f => f)

set_option maxHeartbeats 1000000 in
theorem tnew_any (w : World) : Calls Try.prog 18 #[] w fun e w' => ∃ b mb A c, e = .returned (.pointer (some ⟨b, 0, none⟩)) ∧ IsT w' w.heap.size b mb A c [[]] ∧ Keeps NoB w w' := by
  obtain ⟨w1, hrun, hm1, hk1⟩ := (MapS.made (w.alloc (.cells #[.string ⟨#[]⟩] 9))).put ⟨#[]⟩ (by decide) (by simp) (by decide)
  have e1 : (w.alloc (.cells #[Value.string ⟨#[]⟩] 9)).heap.size = w.heap.size + 1 := by simp
  rw [e1] at hrun hm1 hk1
  have HM := Sd.mk hm1
  have HK := Sd.mk hk1
  have hrun' : (Instr.mapUpdate 60 (.map (some (w.heap.size + 1))) (.string ⟨#[]⟩) (.int .i64 0)).run Try.prog ((w.alloc (.cells #[.string ⟨#[]⟩] 9)).alloc (.map #[] 0)) = .ok () w1 := hrun
  clear hm1 hk1 hrun
  have hmm := @run_makeMap Try.prog
  go_enter Try.func18, Try.ntmps18
  go_wp2
  go_ret
  have hk : Keeps NoB w w1 := (((Keeps.refl NoB w).alloc _).alloc _).trans HK.o (fun _ _ f => f) (fun i hi e => by cases e; omega)
  have hw1 : w.heap.size + 2 ≤ w1.heap.size := by have := HK.o.size; simp at this; omega
  have hb1 : w1.heap[w.heap.size]? = some (.cells #[.string ⟨#[]⟩] 9 (0, 0)) := by
    refine HK.o.obj (Keeps.obj ((Keeps.refl NoB _).alloc _) (heap_alloc_new w _) (fun f => f)) (fun e => by have e' : w.heap.size = w.heap.size + 1 := e; omega)
  have hk2 : Keeps NoB w1 (w1.alloc (.cells #[.slice (some ⟨w.heap.size, 0, none⟩) 1 1, .map (some (w.heap.size + 1))] 62)) := (Keeps.refl NoB w1).alloc _
  refine ⟨_, rfl, ⟨w.heap.size + 1, _, 1, ⟨heap_alloc_new _ _, ⟨by simp [strs], .inr ⟨w.heap.size, 1, #[.string ⟨#[]⟩], rfl, Nat.zero_le _, hk2.obj hb1 (fun f => f), by simp [strs], by decide, by simp, by simp [strs, sOf]⟩⟩, HM.o.keeps hk2 (fun f => f), by simp, by simp, by omega, by omega, fun k hk => by simp [Value.ownBlock] at hk; omega⟩⟩, hk.then hk2⟩

/-- The blocks of a table. -/
def TabB (b mb : Nat) (v : Value) : Nat → Prop := fun i => i = b ∨ i = mb ∨ ownB v i
set_option maxHeartbeats 2000000 in
theorem tadd_full (w : World) (base b mb : Nat) (A : Option Addr) (c : Nat) (l : List (List UInt8)) (h : IsT w base b mb A c l) (S : ByteArray) (hS : S.size ≤ 64) (hs : S.data.toList ∉ l) (hl : l.length ≤ 65536) (hbase : base ≤ w.heap.size) :
    Calls Try.prog 24 #[.pointer (some ⟨b, 0, none⟩), .string S] w fun e w' => e = .returned (.tuple #[]) ∧ (∃ A' c', IsT w' base b mb A' c' (l ++ [S.data.toList]) ∧ Grew w (.slice A l.length c) (.slice A' (l ++ [S.data.toList]).length c')) ∧ Keeps (TabB b mb (.slice A l.length c)) w w' := by
  have h0 : w.cell? ⟨b, 0, none⟩ = some (.slice A l.length c) := blk_cell h.blk 0
  have h1 : w.cell? ⟨b, 1, none⟩ = some (.map (some mb)) := blk_cell h.blk 1
  have hmne := cells_ne_map h.blk h.map
  obtain ⟨w1, hrun, hm1, hk1⟩ := (show MapS w.drew mb l from h.map).put S (by omega) hs (by omega)
  have hk1' : Keeps (OneB mb) w w1 := hk1.undrew1
  have hblk1 := hk1'.obj h.blk (fun e => hmne (by cases e; rfl))
  have h0' : w1.cell? ⟨b, 0, none⟩ = some (.slice A l.length c) := blk_cell hblk1 0
  have f0' := blk_frozen hblk1 0
  have hown1 : OwnV w1 9 (.slice A l.length c) (strs l) := h.own.keeps hk1' (fun k hk e => by cases e; exact h.own.ne_map h.map hk)
  have HB1 := Sd.mk hblk1
  have HM1 := Sd.mk hm1
  have HK1 := Sd.mk hk1'
  have HO1 := Sd.mk hown1
  have H := Sd.mk h
  have hll := strs_len l
  have HLL := Sd.mk hll
  have hsz : S.data.toList.length = S.size := by rw [Array.length_toList]; rfl
  have HSZ := Sd.mk hsz
  have hsx : Value.string S = Value.string (sOf S.data.toList) := by rw [sOf_eq]
  have HSX := Sd.mk hsx
  clear h hm1 hk1 hk1' hblk1 hown1 hll hmne hs hsz hsx
  go_enter Try.func24, Try.ntmps24
  go_wp2_with fail
  go_region
  clear h0 h1 hrun
  go_wp2_with (at_builtin; go_must (refine app_row rfl _ _ 37 9 (.string ⟨#[]⟩) 16 rfl Try.underlying37 infoStr rfl (.slice A l.length c) (strs l) rfl (HO1.o.kept ((Keeps.refl NoB w1).alloc _)) ⟨w1.heap.size, 0, none⟩ 1 1 [.string S] rfl rfl (fun _ _ hj => new_one hj) (fun u hu => by simp at hu; subst hu; rfl) (by rw [HLL.o]; omega) (by rw [HLL.o]; omega) ?_); intro A2 c2 w2 HO2 HK2 HG2; rw [HLL.o] at HO2 HG2 ⊢; have hK2 : Keeps (ownB (.slice A l.length c)) w1 w2 := HK2.undoalloc; have hb2 := hK2.obj HB1.o (HO1.o.ne_blk HB1.o (by decide)); have h2 : w2.cell? ⟨b, 0, none⟩ = some (.slice A l.length c) := blk_cell hb2 0; have f2 := blk_frozen hb2 0; have HP := Sd.mk (And.intro HO2 (And.intro hK2 (And.intro HG2 hb2))); clear HO2 HK2 HG2 hK2 hb2)
  go_end0
  obtain ⟨HO2, hK2, HG2, hb2⟩ := HP.o
  have e1 : strs l ++ [Value.string S] = strs (l ++ [S.data.toList]) := by rw [HSX.o]; simp [strs]
  have e2 : l.length + 1 = (l ++ [S.data.toList]).length := by simp
  rw [e1] at HO2
  rw [e2] at HO2 HG2 ⊢
  have hF1 : Keeps (TabB b mb (.slice A l.length c)) w w1 := HK1.o.mono (fun i _ e => .inr (.inl e))
  have hF2 : Keeps (TabB b mb (.slice A l.length c)) w w2 := hF1.trans hK2 (fun _ _ f => f) (fun i hi f => .inr (.inr f))
  have hF3 : Keeps (OneB b) w2 (w2.setCell ⟨b, 0, none⟩ (.slice A2 (l ++ [S.data.toList]).length c2)) := (Keeps.refl (OneB b) w2).setCell ⟨b, 0, none⟩ _ (fun _ => rfl)
  have hm2 : MapS w2 mb (l ++ [S.data.toList]) := HM1.o.keeps hK2 (HO1.o.ne_map HM1.o)
  refine ⟨rfl, ⟨A2, c2, ⟨blk_set hb2 0 _, HO2.keeps hF3 (fun k hk e => by
      have e' : k = b := e
      subst e'
      exact HO2.ne_blk hb2 (by decide) hk), hm2.keeps hF3 (fun e => cells_ne_map hb2 hm2 e), by simp, fun s hs => ?_, H.o.b0, H.o.m0, fun k hk => ?_⟩, fun k hk => ?_⟩, hF2.trans hF3 (fun _ _ f => f) (fun i _ e => .inl e)⟩
  · rcases List.mem_append.1 hs with h | h
    · exact H.o.sz s h
    · simp at h; subst h; rw [Array.length_toList]; exact hS
  · rcases HG2 k hk with h | h
    · exact H.o.a0 k h
    · simp at h
      have := HK1.o.size
      omega
  · rcases HG2 k hk with h | h
    · exact .inl h
    · simp at h
      have := HK1.o.size
      exact .inr (by omega)
theorem tadd_any (w : World) (base b mb : Nat) (A : Option Addr) (c : Nat) (l : List (List UInt8)) (h : IsT w base b mb A c l) (S : ByteArray) (hS : S.size ≤ 64) (hs : S.data.toList ∉ l) (hl : l.length ≤ 65536) (hbase : base ≤ w.heap.size) :
    Calls Try.prog 24 #[.pointer (some ⟨b, 0, none⟩), .string S] w fun e w' => e = .returned (.tuple #[]) ∧ (∃ A' c', IsT w' base b mb A' c' (l ++ [S.data.toList])) ∧ Keeps (FromB base) w w' :=
  (tadd_full w base b mb A c l h S hS hs hl hbase).mono fun e w' ⟨he, ⟨A', c', hT, _⟩, hK⟩ => ⟨he, ⟨A', c', hT⟩, hK.mono (fun i hi f => by
    rcases f with f | f | f
    · rw [f]; exact h.b0
    · rw [f]; exact h.m0
    · exact h.a0 i f)⟩
end Go.Proofs.Ytdjamijbhaplgaa
