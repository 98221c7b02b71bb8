/- The document's table: a cell with a list of symbols. -/
import Derived.Test.YthelafgdegkkkaaSymI
namespace Go.Proofs.Ythelafgdegkkkaa
open Go.RowKit Go.Maps

/-- A document's table in block b; all its blocks are new since base. -/
structure IsR (w : World) (base b : Nat) (A : Option Addr) (c : Nat) (l : List (List UInt8)) : Prop where
  blk : w.heap[b]? = some (.cells #[.slice A l.length c] 67 (0, 0))
  own : OwnV w 9 (.slice A l.length c) (strs l)
  b0 : base ≤ b
  a0 : ∀ k, (Value.slice A l.length c).ownBlock = some k → base ≤ k
theorem IsR.keeps {F : Nat → Prop} {w w' : World} {base b : Nat} {A : Option Addr} {c : Nat} {l : List (List UInt8)} (h : IsR w base b A c l) (k : Keeps F w w') (hF : ∀ i, base ≤ i → i < w.heap.size → ¬ F i) : IsR w' base b A c l :=
  ⟨k.obj h.blk (hF b h.b0 (Array.getElem?_eq_some_iff.1 h.blk).1), h.own.keeps k (fun i hi => hF i (h.a0 i hi) (h.own.lt i hi)), h.b0, h.a0⟩
theorem IsR.kept {w w' : World} {base b : Nat} {A : Option Addr} {c : Nat} {l : List (List UInt8)} (h : IsR w base b A c l) (k : Keeps NoB w w') : IsR w' base b A c l := h.keeps k (fun _ _ _ f => f)
set_option maxHeartbeats 1000000 in
theorem trnew_any (w : World) : Calls Try.prog 25 #[] w fun e w' => ∃ b A c, e = .returned (.pointer (some ⟨b, 0, none⟩)) ∧ IsR w' w.heap.size b A c [[]] ∧ Keeps NoB w w' := by
  go_enter Try.func25, Try.ntmps25
  go_wp2
  go_ret
  have hb1 : (w.alloc (.cells #[.string ⟨#[]⟩] 9)).heap[w.heap.size]? = some (.cells #[.string ⟨#[]⟩] 9 (0, 0)) := heap_alloc_new w _
  have hk2 : Keeps NoB (w.alloc (.cells #[.string ⟨#[]⟩] 9)) ((w.alloc (.cells #[.string ⟨#[]⟩] 9)).alloc (.cells #[.slice (some ⟨w.heap.size, 0, none⟩) 1 1] 67)) := (Keeps.refl NoB _).alloc _
  refine ⟨w.heap.size + 1, some ⟨w.heap.size, 0, none⟩, 1, rfl, ⟨by simpa using heap_alloc_new (w.alloc (.cells #[.string ⟨#[]⟩] 9)) (.cells #[.slice (some ⟨w.heap.size, 0, none⟩) 1 1] 67), ⟨by simp [strs], .inr ⟨w.heap.size, 1, #[.string ⟨#[]⟩], rfl, Nat.zero_le _, hk2.obj hb1 (fun f => f), by simp [strs], by decide, by simp, by simp [strs, sOf]⟩⟩, by simp, fun k hk => by simp [Value.ownBlock] at hk; omega⟩, ((Keeps.refl NoB w).alloc _).then hk2⟩
def numR (l : List (List UInt8)) (s : List UInt8) : Int := if s ∈ l then (l.idxOf s : Int) else -1
theorem idx_first : ∀ (l : List (List UInt8)) (j : Nat) (s : List UInt8) (h : j < l.length), l[j] = s → s ∉ l.take j → l.idxOf s = j
  | [], _, _, h, _, _ => by simp at h
  | x :: l, 0, s, _, e, _ => by simp at e; simp [e]
  | x :: l, j + 1, s, h, e, hn => by
    simp only [List.take_succ_cons, List.mem_cons, not_or] at hn
    have h' : j < l.length := by simpa using h
    have e' : l[j]'h' = s := e
    have hx : (x == s) = false := by simpa using Ne.symm hn.1
    rw [List.idxOf_cons, hx, idx_first l j s h' e' hn.2]
    rfl
theorem numR_at (l : List (List UInt8)) (j : Nat) (s : List UInt8) (h : j < l.length) (e : l[j] = s) (hn : s ∉ l.take j) : numR l s = j := by
  unfold numR
  rw [if_pos (e ▸ List.getElem_mem h), idx_first l j s h e hn]
theorem mem_take_succ {l : List (List UInt8)} {j : Nat} {s : List UInt8} (h : j < l.length) (hn : s ∉ l.take j) (hne : ¬ l[j] = s) : s ∉ l.take (j + 1) := by
  rw [List.take_succ_eq_append_getElem h, List.mem_append, List.mem_singleton, not_or]
  exact ⟨hn, fun e => hne e.symm⟩
set_option maxHeartbeats 2000000 in
theorem trnumber_any (w : World) (base b : Nat) (A : Option Addr) (c : Nat) (l : List (List UInt8)) (h : IsR w base b A c l) (hl : l.length ≤ 140737488355328) (S : ByteArray) :
    Calls Try.prog 30 #[.pointer (some ⟨b, 0, none⟩), .string S] w fun e w' => e = .returned (.int .i64 (numR l S.toList)) ∧ ∃ n, w' = w.drewN n := by
  have h0 : w.cell? ⟨b, 0, none⟩ = some (.slice A l.length c) := blk_cell h.blk 0
  have HV := Sd.mk h.own.vrd.2.2.2.2.2
  clear h
  go_enter Try.func30, Try.ntmps30
  go_wp2_with fail
  go_loopg [5] l.length (fun gk i wr => ∃ (j : Nat), gk + j = l.length ∧ i = .int .i64 j ∧ Sd (S.toList ∉ l.take j) ∧ Sd (w = wr))
  case atStart => exact ⟨0, by omega, rfl, ⟨by simp⟩, ⟨rfl⟩⟩
  case round =>
    obtain ⟨j, hj, rfl, hno, ⟨rfl⟩⟩ := hrel
    by_cases hlt : j < l.length
    · have hq : (j : Int) < (l.length : Int) := by omega
      obtain ⟨b1, o1, rfl, hc⟩ := HV.o j (by rw [strs_len]; exact hlt)
      have hc2 : w.cell? ⟨b1, o1 + j, none⟩ = some (.string (sOf l[j])) := by rw [hc]; simp [strs]
      clear hc
      by_cases he : l[j] = S.toList
      · have hb : ((sOf l[j]).toList == S.toList) = true := by rw [sOf_toList, he]; simp
        have HE := Sd.mk he
        clear he
        go_wp2_with fail
        go_ret
        exact ⟨by rw [numR_at l j S.toList hlt HE.o hno.o]; rfl, 0, rfl⟩
      · have hb : ((sOf l[j]).toList == S.toList) = false := by rw [sOf_toList]; simpa using he
        have HE := Sd.mk he
        clear he
        go_wp2_with fail
        go_roundg (gk - 1)
        case measure => omega
        case rel => exact ⟨j + 1, by omega, by go_num, ⟨mem_take_succ hlt hno.o HE.o⟩, ⟨rfl⟩⟩
    · have hq : ¬ (j : Int) < (l.length : Int) := by omega
      have hn : S.toList ∉ l := by have := hno.o; rwa [List.take_of_length_le (by omega)] at this
      have HN : Sd (numR l S.toList = -1) := ⟨by unfold numR; rw [if_neg hn]⟩
      clear hn
      go_wp2_with fail
      go_ret
      exact ⟨by rw [HN.o]; rfl, 0, rfl⟩
set_option maxHeartbeats 2000000 in
theorem trsymbol_any (w : World) (S : ByteArray) (hS : S.size ≤ 140737488355328) :
    Calls Try.prog 29 #[.string S] w fun e w' => e = .returned (.bool (mayL S.data.toList)) ∧ ∃ n, w' = w.drewN n := by
  have hsz : S.data.toList.length = S.size := by rw [Array.length_toList]; rfl
  go_enter Try.func29, Try.ntmps29
  go_wp2_with fail
  go_loopg [3] S.size (fun gk i wr => ∃ (j : Nat), gk + j = S.size ∧ i = .int .i64 j ∧ Sd (0 ∉ S.data.toList.take j) ∧ Sd (w = wr))
  case atStart => exact ⟨0, by omega, rfl, ⟨by simp⟩, ⟨rfl⟩⟩
  case round =>
    obtain ⟨j, hj, rfl, hno, ⟨rfl⟩⟩ := hrel
    by_cases hlt : j < S.size
    · have hq : (j : Int) < (S.size : Int) := by omega
      have hjl : j < S.data.toList.length := by omega
      have hget : S.data.toList[j] = S[j]'hlt := by rw [Array.getElem_toList]; rfl
      by_cases hz : S[j]'hlt = 0
      · have hb : (((S[j]'hlt).toNat : Int) == 0) = true := by rw [hz]; rfl
        have hm : Sd (mayL S.data.toList = false) := ⟨by
          have : (0 : UInt8) ∈ S.data.toList := by rw [← hz, ← hget]; exact List.getElem_mem hjl
          unfold mayL
          rw [List.contains_iff_mem.2 this]
          simp⟩
        clear hget hz
        go_wp2_with fail
        go_ret
        exact ⟨by rw [hm.o]; rfl, 0, rfl⟩
      · have hb : (((S[j]'hlt).toNat : Int) == 0) = false := by
          have : (S[j]'hlt).toNat ≠ 0 := fun h => hz (UInt8.toNat_inj.1 h)
          simp only [beq_eq_false_iff_ne, ne_eq]
          omega
        have hm : Sd ((0 : UInt8) ∉ S.data.toList.take (j + 1)) := ⟨by
          rw [List.take_succ_eq_append_getElem hjl, List.mem_append, List.mem_singleton, not_or]
          exact ⟨hno.o, fun e => hz (hget.symm.trans e.symm)⟩⟩
        clear hget hz
        go_wp2_with fail
        go_roundg (gk - 1)
        case measure => omega
        case rel => exact ⟨j + 1, by omega, by go_num, hm, ⟨rfl⟩⟩
    · have hq : ¬ (j : Int) < (S.size : Int) := by omega
      have hm : Sd (mayL S.data.toList = decide ((S.size : Int) ≤ 64)) := ⟨by
        have h := hno.o
        rw [List.take_of_length_le (by omega)] at h
        unfold mayL
        have e : decide (S.size ≤ 64) = decide ((S.size : Int) ≤ 64) := decide_eq_decide.2 (by omega)
        rw [hsz, List.contains_eq_mem, decide_eq_false h, e]
        simp⟩
      go_wp2_with fail
      go_ret
      exact ⟨by rw [hm.o]; rfl, 0, rfl⟩
end Go.Proofs.Ythelafgdegkkkaa
