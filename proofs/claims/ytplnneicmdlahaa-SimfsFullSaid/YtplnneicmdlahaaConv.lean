/- Slices of slices of bytes, and texts out of bytes. -/
import Derived.Test.YtplnneicmdlahaaBase
import Derived.Laws.BytesArg
import Derived.Lib.ConvBytes
namespace Go.Proofs.Ytplnneicmdlahaa
open Go.RowKit

/-- The string of bytes. -/
def sOf (xs : List UInt8) : ByteArray := ⟨xs.toArray⟩
theorem sOf_inj {xs ys : List UInt8} (h : sOf xs = sOf ys) : xs = ys := by
  have : (sOf xs).data.toList = (sOf ys).data.toList := by rw [h]
  simpa [sOf] using this
theorem sOf_eq (s : ByteArray) : sOf s.data.toList = s := by simp [sOf]
theorem sOf_size (xs : List UInt8) : (sOf xs).size = xs.length := by simp [sOf, ByteArray.size]
theorem strOfNums_u8 (xs : List UInt8) : strOfNums (xs.map fun x => (x.toNat : Int)) = sOf xs := by
  unfold strOfNums sOf
  congr 1
  rw [List.map_map]
  have : (fun n : Int => UInt8.ofNat n.toNat) ∘ (fun x : UInt8 => (x.toNat : Int)) = id := by funext x; simp
  rw [this, List.map_id]

theorem conv_rd {P : Program} (w : World) (src e dst : TypeId) (hs : P.underlying src = some (.slice e)) (he : P.underlying e = some (.int .u8)) (hd : P.underlying dst = some .string)
    (A : Option Addr) (xs : List UInt8) (c : Nat) (h : Rd w A xs) : (convert src dst (.slice A xs.length c)).run P w = .ok (.string (sOf xs)) w := by
  cases xs with
  | nil =>
    cases A with
    | none => exact run_convert_bytes_nil w src e hs he _ c dst hd
    | some a =>
      rw [run_convert_bytes_string w src dst e _ _ c hs he hd]
      show (Conv.bytesToString (.slice (some a) 0 c)).run P w = _
      rw [run_bytesToString w a 0 c [] (by simp [loadCells, loadCellsFrom, Sem.run_pure])]
      rfl
  | cons x l =>
    obtain ⟨b, o, rfl, _⟩ := h 0 (by simp)
    rw [← strOfNums_u8]
    refine run_convert_bytes_arg w src e hs he b o _ c _ (by simp) (fun i hi => ?_) dst hd
    obtain ⟨b', o', e', hc⟩ := h i hi
    cases e'
    rw [hc, List.getD_eq_getElem?_getD, List.getElem?_map, List.getElem?_eq_getElem hi]
    rfl

/-- The address of a slice of a slice. -/
def cutA (A : Option Addr) (c lo : Nat) : Option Addr := if c = lo then A else A.map (·.add lo)
theorem slice_run {P : Program} (t e : TypeId) (kl kh : IntKind) {i : TypeInfo} (ht : P.underlying t = some (.slice e)) (hi : P.info? e = some i) (hsz : i.size = 1) (A : Option Addr) (n c lo hi' : Nat) (h1 : lo ≤ hi') (h2 : hi' ≤ c) (W : World) (l h : Int) (hl : l = lo) (hh : h = hi') :
    (Instr.slice t (.slice A n c) (some (.int kl l)) (some (.int kh h)) none).run P W = .ok (.slice (cutA A c lo) (hi' - lo) (c - lo)) W := by
  subst hl hh
  have hel : P.elem t = e := by simp [Program.elem, ht]
  have hu : P.underlying t = some (.slice (P.elem t)) := by rw [hel]; exact ht
  rw [run_slice_lh W t A n c hu kl kh lo hi' (by omega) (by omega) (by omega), hel]
  simp [sizeOf, typeInfo, hi, hsz, sliced, Result.andThen, cutA]
theorem slice_run_l {P : Program} (t e : TypeId) (kl : IntKind) {i : TypeInfo} (ht : P.underlying t = some (.slice e)) (hi : P.info? e = some i) (hsz : i.size = 1) (A : Option Addr) (n c lo : Nat) (h1 : lo ≤ n) (W : World) (l : Int) (hl : l = lo) :
    (Instr.slice t (.slice A n c) (some (.int kl l)) none none).run P W = .ok (.slice (cutA A c lo) (n - lo) (c - lo)) W := by
  subst hl
  have hel : P.elem t = e := by simp [Program.elem, ht]
  have hu : P.underlying t = some (.slice (P.elem t)) := by rw [hel]; exact ht
  rw [run_slice_l W t A n c hu kl lo (by omega) (by omega), hel]
  simp [sizeOf, typeInfo, hi, hsz, sliced, Result.andThen, cutA]
theorem slice_run_h {P : Program} (t e : TypeId) (kh : IntKind) {i : TypeInfo} (ht : P.underlying t = some (.slice e)) (hi : P.info? e = some i) (hsz : i.size = 1) (A : Option Addr) (n c hi' : Nat) (hA : 0 < c → ∀ a, A = some a → a.spot = none) (h2 : hi' ≤ c) (W : World) (h : Int) (hh : h = hi') :
    (Instr.slice t (.slice A n c) none (some (.int kh h)) none).run P W = .ok (.slice A hi' c) W := by
  subst hh
  have hel : P.elem t = e := by simp [Program.elem, ht]
  have hu : P.underlying t = some (.slice (P.elem t)) := by rw [hel]; exact ht
  rw [run_slice_h W t A n c hu kh hi' (by omega) (by omega), hel]
  cases A with
  | none => simp [sizeOf, typeInfo, hi, hsz, sliced, Result.andThen]
  | some a =>
    have : 0 < c → a.add 0 = a := fun hc => by
      obtain ⟨b, o, s⟩ := a
      have := hA hc _ rfl
      simp only at this
      subst this
      rw [add_lit]; rfl
    by_cases hc : c = 0
    · simp [sizeOf, typeInfo, hi, hsz, sliced, Result.andThen, hc]
    · simp [sizeOf, typeInfo, hi, hsz, sliced, Result.andThen, this (by omega), hc]
theorem Rd.cut {w : World} {A : Option Addr} {xs : List UInt8} (h : Rd w A xs) (c lo hi : Nat) (h1 : lo ≤ hi) (h2 : hi ≤ xs.length) (hc : xs.length ≤ c) : Rd w (cutA A c lo) ((xs.drop lo).take (hi - lo)) := by
  intro i hi'
  simp only [List.length_take, List.length_drop] at hi'
  obtain ⟨b, o, rfl, hcell⟩ := h (lo + i) (by omega)
  have hne : c ≠ lo := by omega
  refine ⟨b, o + lo, by simp [cutA, hne, add_lit], ?_⟩
  rw [show o + lo + i = o + (lo + i) by omega, hcell]
  simp
theorem Rd.take {w : World} {A : Option Addr} {xs : List UInt8} (h : Rd w A xs) (n : Nat) : Rd w A (xs.take n) := by
  intro i hi'
  simp only [List.length_take] at hi'
  obtain ⟨b, o, rfl, hcell⟩ := h i (by omega)
  exact ⟨b, o, rfl, by rw [hcell]; simp⟩
theorem Bts.cut {w : World} {A : Option Addr} {xs : List UInt8} {n c : Nat} (h : Bts w (.slice A n c) xs) (lo hi : Nat) (h1 : lo ≤ hi) (h2 : hi ≤ xs.length) : Bts w (.slice (cutA A c lo) (hi - lo) (c - lo)) ((xs.drop lo).take (hi - lo)) := by
  obtain ⟨rfl, hc, hm, hn, hsp, hr⟩ := h.rd
  have hl : ((xs.drop lo).take (hi - lo)).length = hi - lo := by simp; omega
  refine ⟨_, c - lo, by rw [hl], by omega, by omega, fun e => ?_, fun hcp a ha => ?_, hr.cut c lo hi h1 h2 hc⟩
  · cases A with
    | none => have := hn rfl; omega
    | some a => by_cases hcl : c = lo <;> simp [cutA, hcl] at e
  · cases A with
    | none => by_cases hcl : c = lo <;> simp [cutA, hcl] at ha
    | some a' =>
      have := hsp (by omega) a' rfl
      by_cases hcl : c = lo
      · simp [cutA, hcl] at ha; subst ha; exact this
      · simp [cutA, hcl] at ha
        subst ha
        obtain ⟨b, o, s⟩ := a'
        obtain ⟨rfl, hb⟩ := this
        rw [add_lit]; exact ⟨rfl, hb⟩
theorem cutA_own {A : Option Addr} {c lo n m k : Nat} : (Value.slice (cutA A c lo) n m).ownBlock = (Value.slice A k c).ownBlock := by
  unfold cutA
  split
  · cases A <;> rfl
  · cases A with
    | none => rfl
    | some a => simp [Value.ownBlock]; unfold Addr.add; split <;> rfl
theorem OffR.cut {F : Nat → Prop} {A : Option Addr} {c lo n m k : Nat} (h : OffR F (.slice A k c)) (hm : m ≤ c) : OffR F (.slice (cutA A c lo) n m) := by
  intro a n' c' e hc
  cases A with
  | none => simp [cutA] at e
  | some a' =>
    injection e with e1 e2 e3
    have hb : a.block = a'.block := by
      unfold cutA at e1
      split at e1
      · injection e1 with e1; rw [e1]
      · simp at e1; rw [← e1]; unfold Addr.add; split <;> rfl
    rw [hb]
    exact h a' k c rfl (by omega)
theorem Off.cut {F : Nat → Prop} {A : Option Addr} {c lo n m k : Nat} (h : Off F (.slice A k c)) : Off F (.slice (cutA A c lo) n m) := by
  intro b hb; rw [cutA_own (k := k)] at hb; exact h b hb
theorem Bts.drop {w : World} {A : Option Addr} {xs : List UInt8} {n c : Nat} (h : Bts w (.slice A n c) xs) (lo : Nat) (h1 : lo ≤ xs.length) : Bts w (.slice (cutA A c lo) (n - lo) (c - lo)) (xs.drop lo) := by
  have e := h.rd.1
  have := h.cut lo xs.length h1 (Nat.le_refl _)
  rw [e]
  rwa [List.take_of_length_le (by simp)] at this
theorem Bts.take {w : World} {A : Option Addr} {xs : List UInt8} {n c : Nat} (h : Bts w (.slice A n c) xs) (m : Nat) (h1 : m ≤ xs.length) : Bts w (.slice A m c) (xs.take m) := by
  obtain ⟨rfl, hc, hm, hn, hsp, hr⟩ := h.rd
  have hl : (xs.take m).length = m := by simp; omega
  exact ⟨A, c, by rw [hl], by omega, hm, hn, hsp, hr.take m⟩
end Go.Proofs.Ytplnneicmdlahaa
