/- The program's Hash: New, Add. -/
import Derived.Test.YtdnigbbfiklaoaaDoorBufOps
namespace Go.Proofs.YtdnigbbfiklaoaaDoor
open Go.RowKit
theorem chunk_app (A s : List UInt8) (i : Nat) (h : 64 * i + 64 ≤ A.length) : Sha.chunk (A ++ s) i = Sha.chunk A i := by
  rw [Sha.chunk_eq, Sha.chunk_eq, List.drop_append_of_le_length (by omega), List.take_append_of_le_length (by rw [List.length_drop]; omega)]
theorem chunk_drop (D : List UInt8) (q j : Nat) : Sha.chunk (D.drop (64 * q)) j = Sha.chunk D (q + j) := by
  rw [Sha.chunk_eq, Sha.chunk_eq, List.drop_drop, show 64 * q + 64 * j = 64 * (q + j) by omega]
  congr 1; omega
theorem runTo_pre (A s : List UInt8) (h : List UInt32) : ∀ k, 64 * k ≤ A.length → Sha.runTo (A ++ s) h k = Sha.runTo A h k
  | 0, _ => by rw [Sha.runTo_0, Sha.runTo_0]
  | k + 1, hk => by rw [Sha.runTo_succ, Sha.runTo_succ, runTo_pre A s h k (by omega), chunk_app A s k (by omega)]
theorem runTo_add (D : List UInt8) (h : List UInt32) (q : Nat) : ∀ k, Sha.runTo (D.drop (64 * q)) (Sha.runTo D h q) k = Sha.runTo D h (q + k)
  | 0 => by rw [Sha.runTo_0]; rfl
  | k + 1 => by rw [Sha.runTo_succ, runTo_add D h q k, chunk_drop, ← Nat.add_assoc, Sha.runTo_succ]
theorem gb_chunk (D : List UInt8) (k j : Nat) (h : j < 64) : Sha.gb (Sha.chunk D k) j = Sha.gb (D.drop (64 * k)) j := by
  rw [Sha.chunk_eq, show 64 * k + 64 - 64 * k = 64 by omega]
  unfold Sha.gb
  simp [List.getD, h]
/-- How many bytes the buffer holds: for a loop's measure. -/
def bufLenW (w : World) (B : Nat) : Nat := match w.cell? ⟨B, 8, none⟩, w.cell? ⟨B, 9, none⟩ with
  | some (.slice _ n _), some (.int _ o) => n - o.toNat
  | _, _ => 0
theorem Buf.lenW {w : World} {base B : Nat} {h : List UInt32} {nn : Int} {N : Nat} {c : List UInt8} (H : Buf w base B h nn N c) : bufLenW w B = c.length := by
  obtain ⟨p, cap, all, off, lr, h1, h2, h3, h4, h5, rfl⟩ := H
  have a := h1.rest 0
  have b := h1.rest 1
  simp at a b
  unfold bufLenW
  rw [a, b]
  simp
/-- Block B is a Hash that has taken the bytes A. -/
def HashOf (w : World) (base B : Nat) (A : List UInt8) : Prop := Buf w base B (Sha.runTo A Sha.first (A.length / 64)) (A.length : Int) A.length (A.drop (64 * (A.length / 64)))
section
variable {w : World} {B base : Nat}
set_option maxHeartbeats 1000000 in
theorem hNone_any {h : List UInt32} {nn : Int} {N : Nat} {c : List UInt8} (H : Buf w base B h nn N c) :
    Calls Tryd.prog 52 #[.pointer (some ⟨B, 0, none⟩)] w fun e w' => e = .returned (.bool false) ∧ w' = w := by
  have c12 := H.cells.2.1
  go_enter Tryd.func52, Tryd.ntmps52
  go_wp2
  go_ret
  exact ⟨rfl, rfl⟩
set_option maxHeartbeats 1000000 in
theorem hNew_any (w : World) : Calls Tryd.prog 40 #[] w fun e w' => e = .returned (.pointer (some ⟨w.heap.size, 0, none⟩)) ∧ HashOf w' w.heap.size w.heap.size [] ∧ Below w.heap.size w w' ∧ w'.heap.size = w.heap.size + 1 := by
  go_enter Tryd.func40, Tryd.ntmps40
  go_wp2
  go_ret
  refine ⟨rfl, ⟨none, 0, [], 0, 0, ⟨?_, ?_⟩, OwnB.nil _ _, by simp, Nat.le_refl _, Nat.le_refl _, rfl⟩, (Below.refl _ _).alloc (Nat.le_refl _) _, by simp⟩
  · rw [show Sha.runTo [] Sha.first (([] : List UInt8).length / 64) = Sha.first from Sha.runTo_0 _ _]; exact Sha.len_first
  · rw [heap_alloc_last, show Sha.runTo [] Sha.first (([] : List UInt8).length / 64) = Sha.first from Sha.runTo_0 _ _]
    simp [hcells, Sha.arr32, Sha.first]
set_option maxHeartbeats 4000000 in
set_option maxRecDepth 100000 in
theorem hAdd_any (A s : List UInt8) (H : HashOf w base B A) (hN : A.length + s.length ≤ 100000000) (hB : base ≤ B) (hkon : KonAt w) (hkb : 1 < base) :
    Calls Tryd.prog 41 #[.pointer (some ⟨B, 0, none⟩), .string ⟨s.toArray⟩] w fun e w' => e = .returned (.int .i64 0) ∧ HashOf w' base B (A ++ s) ∧ Below base w w' := by
  obtain ⟨q, hq⟩ : ∃ q, q = A.length / 64 := ⟨_, rfl⟩
  obtain ⟨h0, hh0⟩ : ∃ h0, h0 = Sha.runTo A Sha.first q := ⟨_, rfl⟩
  obtain ⟨D, hD⟩ : ∃ D, D = A.drop (64 * q) ++ s := ⟨_, rfl⟩
  have hq64 : 64 * q ≤ A.length := by omega
  have hDl : D.length + 64 * q = A.length + s.length := by rw [hD, List.length_append, List.length_drop]; omega
  have hDd : D = (A ++ s).drop (64 * q) := by rw [hD, List.drop_append_of_le_length hq64]
  have hfin : ∀ k, Sha.runTo D h0 k = Sha.runTo (A ++ s) Sha.first (q + k) := fun k => by
    rw [hDd, hh0, ← runTo_pre A s Sha.first q hq64, runTo_add]
  have H' : Buf w base B h0 (A.length : Int) A.length (A.drop (64 * q)) := by rw [hh0, hq]; exact H
  clear H
  have cc := H'.cells
  obtain ⟨c11, c12, f11⟩ := cc
  have hsz := H'.lt
  have q1 : IntKind.u64.wrap (s.length : Int) = (s.length : Int) := by rw [U.wrap_u64]; omega
  have q2 : IntKind.u64.wrap ((A.length : Int) + (s.length : Int)) = ((A.length + s.length : Nat) : Int) := by rw [U.wrap_u64]; omega
  have HF := Lib.hid hfin; clear hfin
  have HD1 := Lib.hid hD; clear hD
  have HD2 := Lib.hid hDd; clear hDd
  have HH0 := Lib.hid hh0; clear hh0
  have HQ := Lib.hid hq; clear hq
  go_enter Tryd.func41, Tryd.ntmps41
  go_wp2_with (first
    | (go_at_call 52; refine (hNone_any H').mono ?_; rintro e w1 ⟨rfl, hw1⟩; have hw1 := hw1.symm; subst hw1)
    | (go_at_call 53; refine (bufWstr_any s (H'.setN ((A.length : Int) + (s.length : Int))) hN hB).mono ?_; rintro e w2 ⟨rfl, hX, hb2⟩))
  have hX0 : Buf w2 base B (Sha.runTo D h0 0) ((A.length : Int) + (s.length : Int)) (A.length + s.length) (D.drop (64 * 0)) := by
    rw [Sha.runTo_0, Nat.mul_zero, List.drop_zero, HD1.out]; exact hX
  have hB0 : Below base w w2 := ((Below.refl base w).setCell (by simpa using hB) _).trans hb2
  clear hX hb2 H' c11 c12 f11
  go_loopw [22] (fun _ wr => ∃ k, 64 * k ≤ D.length ∧ Buf wr base B (Sha.runTo D h0 k) ((A.length : Int) + (s.length : Int)) (A.length + s.length) (D.drop (64 * k)) ∧ Below base w wr) (fun _ wr => bufLenW wr B)
  case atStart => exact ⟨0, by omega, hX0, hB0⟩
  case round =>
    obtain ⟨k, hk, hX, hBw⟩ := hrel
    have hlen := hX.lenW
    rw [List.length_drop] at hlen
    have HL := Lib.hid hlen; clear hlen
    by_cases hlt : 64 * k + 64 ≤ D.length
    · have q5 : (64 : Int) ≤ ((D.drop (64 * k)).length : Int) := by rw [List.length_drop]; omega
      go_wp2_with fail
      refine (bufLen_any hX hN).mono ?_
      rintro e w3 ⟨rfl, j3, rfl⟩
      have hX3 := hX.drewN j3
      have hB3 : Below base w (wr.drewN j3) := below_dn hBw j3
      obtain ⟨w4, hw4⟩ : ∃ w4, w4 = wr.drewN j3 := ⟨_, rfl⟩
      rw [← hw4] at hX3 hB3 ⊢
      clear hw4
      go_wp2_with fail
      refine (bufNext_any hX3 hN (by rw [List.length_drop]; omega)).mono ?_
      rintro e w5 ⟨g, o, cp, rfl, hgl, hgB, hcs, hX5, hg5⟩
      have hB5 : Below base w w5 := hB3.grown hg5 (by have := hX3.lt; omega) (fun x hx => by cases hx; exact hB)
      obtain ⟨p, cap, all, off, lr, a1, a2, a3, a4, a5, a6⟩ := hX5
      have hk5 : KonAt w5 := hkon.of (hB5.block _ hkb)
      have A6 := Lib.hid a6; clear a6
      go_wp2_with fail
      refine (pblock_any _ _ _ _ _ B (Sha.chunk D k) g o cp w5 a1 hgl (fun j hj => by rw [gb_chunk D k j hj]; exact hcs j hj) hk5).mono ?_
      rintro e w6 ⟨rfl, b1, b2⟩
      rw [← Sha.runTo_succ] at b1
      have hX6 : Buf w6 base B (Sha.runTo D h0 (k + 1)) ((A.length : Int) + (s.length : Int)) (A.length + s.length) (D.drop (64 * (k + 1))) :=
        ⟨p, cap, all, off, lr, b1, Own.grown a2 b2 (fun g hg e => own_ne a3 hg (by injection e with e; exact e.symm)), a3, a4, a5, by rw [A6.out, List.drop_drop]; rfl⟩
      have hB6 : Below base w w6 := hB5.grown b2 (by have := a1.lt; omega) (fun x hx => by cases hx; exact hB)
      have hl6 := hX6.lenW
      rw [List.length_drop] at hl6
      have HL6 := Lib.hid hl6; clear hl6
      go_wp2_with fail
      go_roundw
      case rel => exact ⟨k + 1, by omega, hX6, hB6⟩
      case measure => rw [HL6.out, HL.out]; omega
    · have q5 : ¬ ((64 : Int) ≤ ((D.drop (64 * k)).length : Int)) := by rw [List.length_drop]; omega
      have hfin := HF.out k
      go_wp2_with fail
      refine (bufLen_any hX hN).mono ?_
      rintro e w3 ⟨rfl, j3, rfl⟩
      have hX3 := hX.drewN j3
      have hB3 : Below base w (wr.drewN j3) := below_dn hBw j3
      obtain ⟨w4, hw4⟩ : ∃ w4, w4 = wr.drewN j3 := ⟨_, rfl⟩
      rw [← hw4] at hX3 hB3 ⊢
      clear hw4
      go_wp2_with fail
      go_ret
      refine ⟨rfl, ?_, hB3⟩
      rw [hfin] at hX3
      unfold HashOf
      have e1 : (A ++ s).length / 64 = q + k := by rw [List.length_append]; omega
      rw [e1, List.length_append]
      rw [HD2.out, List.drop_drop, ← Nat.mul_add] at hX3
      exact hX3
end
end Go.Proofs.YtdnigbbfiklaoaaDoor
