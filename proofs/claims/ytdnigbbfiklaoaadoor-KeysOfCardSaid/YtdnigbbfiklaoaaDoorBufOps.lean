/- The buffer within a Hash: its methods as the Hash calls them. -/
import Derived.Test.YtdnigbbfiklaoaaDoorBuf
namespace Go.Proofs.YtdnigbbfiklaoaaDoor
open Go.RowKit
theorem own_ne {p : Option Addr} {n cap B g : Nat} (h : p.map (·.block) ≠ some B) (hg : (Value.slice p n cap).ownBlock = some g) : g ≠ B := fun e => by
  subst e; cases p <;> exact h hg
theorem grown_drewN {w w' : World} {row : Option Nat} (h : w.grownBy w' row) (k : Nat) : w.grownBy (w'.drewN k) row := ⟨h.os, h.tape, h.output, h.size, h.block⟩
theorem grown_refl (w : World) (row : Option Nat) : w.grownBy w row := ⟨rfl, rfl, rfl, Nat.le_refl _, fun _ _ _ => rfl⟩
/-- Block B is a Hash with the words h, the count nn, the bytes c in its buffer; the buffer's row is one from base on. -/
def Buf (w : World) (base B : Nat) (h : List UInt32) (nn : Int) (N : Nat) (c : List UInt8) : Prop :=
  ∃ (p : Option Addr) (cap : Nat) (all : List UInt8) (off : Nat) (lr : Int), HashIs w B h (.slice p all.length cap) off lr nn ∧ OwnB w base p cap all ∧ p.map (·.block) ≠ some B ∧ off ≤ all.length ∧ all.length ≤ N ∧ all.drop off = c
theorem Buf.lt {w : World} {base B : Nat} {h : List UInt32} {nn : Int} {N : Nat} {c : List UInt8} (H : Buf w base B h nn N c) : B < w.heap.size := by
  obtain ⟨p, cap, all, off, lr, h1, _⟩ := H; exact h1.lt
theorem Buf.len {w : World} {base B : Nat} {h : List UInt32} {nn : Int} {N : Nat} {c : List UInt8} (H : Buf w base B h nn N c) : h.length = 8 := by
  obtain ⟨p, cap, all, off, lr, h1, _⟩ := H; exact h1.1
theorem Buf.mono {w : World} {base base' B : Nat} {h : List UInt32} {nn : Int} {N M : Nat} {c : List UInt8} (H : Buf w base B h nn N c) (hm : N ≤ M) (hb : base' ≤ base) : Buf w base' B h nn M c := by
  obtain ⟨p, cap, all, off, lr, h1, h2, h3, h4, h5, h6⟩ := H
  exact ⟨p, cap, all, off, lr, h1, Own.mono h2 hb, h3, h4, by omega, h6⟩
/-- All old blocks stand as they stood. -/
theorem Buf.frame {w w' : World} {base B : Nat} {h : List UInt32} {nn : Int} {N : Nat} {c : List UInt8} (H : Buf w base B h nn N c) (hb : ∀ k, k < w.heap.size → w'.heap[k]? = w.heap[k]?) : Buf w' base B h nn N c := by
  obtain ⟨p, cap, all, off, lr, h1, h2, h3, h4, h5, h6⟩ := H
  exact ⟨p, cap, all, off, lr, h1.frame (hb _ h1.lt), Own.frame h2 (fun g _ hl => hb g hl), h3, h4, h5, h6⟩
theorem Buf.below {w w' : World} {base B : Nat} {h : List UInt32} {nn : Int} {N : Nat} {c : List UInt8} (H : Buf w base B h nn N c) (hb : Below w.heap.size w w') : Buf w' base B h nn N c := H.frame hb.block
theorem Buf.drew {w : World} {base B : Nat} {h : List UInt32} {nn : Int} {N : Nat} {c : List UInt8} (H : Buf w base B h nn N c) : Buf w.drew base B h nn N c := H.frame fun _ _ => rfl
theorem Buf.drewN {w : World} {base B : Nat} {h : List UInt32} {nn : Int} {N : Nat} {c : List UInt8} (H : Buf w base B h nn N c) (k : Nat) : Buf (w.drewN k) base B h nn N c := H.frame fun _ _ => rfl
theorem Buf.alloc {w : World} {base B : Nat} {h : List UInt32} {nn : Int} {N : Nat} {c : List UInt8} (H : Buf w base B h nn N c) (o : Obj) : Buf (w.alloc o) base B h nn N c := H.frame fun _ hk => heap_lt _ _ _ hk
theorem Buf.setN {w : World} {base B : Nat} {h : List UInt32} {nn : Int} {N : Nat} {c : List UInt8} (H : Buf w base B h nn N c) (u : Int) : Buf (w.setCell ⟨B, 11, none⟩ (.int .u64 u)) base B h u N c := by
  obtain ⟨p, cap, all, off, lr, h1, h2, h3, h4, h5, h6⟩ := H
  refine ⟨p, cap, all, off, lr, h1.setN u, Own.setOther h2 _ _ (fun _ hg => own_ne h3 hg), h3, h4, h5, h6⟩
theorem Buf.cells {w : World} {base B : Nat} {h : List UInt32} {nn : Int} {N : Nat} {c : List UInt8} (H : Buf w base B h nn N c) : w.cell? ⟨B, 11, none⟩ = some (.int .u64 nn) ∧ w.cell? ⟨B, 12, none⟩ = some (.bool true) ∧ w.frozen? ⟨B, 11, none⟩ = false := by
  obtain ⟨p, cap, all, off, lr, h1, _⟩ := H
  have a := h1.rest 3; have b := h1.rest 4
  simp at a b
  exact ⟨a, b, h1.free 11⟩
section
variable {w : World} {B base : Nat} {h : List UInt32} {nn : Int} {N : Nat} {c : List UInt8}
theorem bufLen_any (H : Buf w base B h nn N c) (hN : N ≤ 100000000) :
    Calls Tryd.prog 54 #[.pointer (some ⟨B, 8, none⟩)] w fun e w' => e = .returned (.int .i64 (c.length : Int)) ∧ ∃ k, w' = w.drewN k := by
  obtain ⟨p, cap, all, off, lr, h1, h2, h3, h4, h5, rfl⟩ := H
  refine (bLen_any p all.length cap off h1 h4 (by omega)).mono ?_
  rintro e w' ⟨rfl, k, rfl⟩
  exact ⟨by rw [List.length_drop], k, rfl⟩
set_option maxHeartbeats 4000000 in
set_option maxRecDepth 100000 in
theorem bufWstr_any (s : List UInt8) (H : Buf w base B h nn N c) (hN : N + s.length ≤ 100000000) (hB : base ≤ B) :
    Calls Tryd.prog 53 #[.pointer (some ⟨B, 8, none⟩), .string ⟨s.toArray⟩] w fun e w' => e = .returned (.tuple #[.int .i64 (s.length : Int), .nilIface]) ∧ Buf w' base B h nn (N + s.length) (c ++ s) ∧ Below base w w' := by
  obtain ⟨i, bt⟩ := btinfo
  obtain ⟨p, cap, all, off, lr, h1, h2, h3, h4, h5, rfl⟩ := H
  have hBl := h1.lt
  have f10 := h1.free 10
  have c10 := h1.rest 2
  simp at c10
  have hH1 := h1.setLr 0
  have ho1 : OwnB (w.setCell ⟨B, 10, none⟩ (.int .i8 0)) base p cap all := Own.setOther h2 _ _ (fun _ hg => own_ne h3 hg)
  have hb1 : Below base w (w.setCell ⟨B, 10, none⟩ (.int .i8 0)) := (Below.refl _ _).setCell (by simpa using hB) _
  by_cases hr : all.length + s.length ≤ cap
  · go_enter Tryd.func53, Tryd.ntmps53
    go_wp2_with (first
      | (go_at_call 62; refine (bTry_room p all.length cap off s.length hH1 h2.add0 h2.capB.2 hr).mono ?_; rintro e w3 ⟨rfl, hH3, hg3, hs3⟩; have HS3 := Lib.hid hs3; clear hs3; have c8 := hH3.rest 0; simp at c8
         have ho3 := Own.grown ho1 hg3 (fun g hg e => h3 (by rw [e]; cases p <;> exact hg)))
      | (refine wpList_from bt rfl _ _ rfl p (all.length + s.length) cap all.length .i64 _ rfl rfl rfl (by omega) ?_)
      | (refine wpList_copyS bt rfl _ _ 9 rfl base p cap all ho3 _ _ _ rfl rfl s rfl (by omega) hr ?_; intro w4 h4' hg4 hs4; have HS4 := Lib.hid hs4; clear hs4))
    go_ret2
    have hH4 := hH3.grown hg4 h3
    have hb3 : Below base w w3 := hb1.grown hg3 (by simp; omega) (fun x hx => by cases hx; exact hB)
    refine ⟨rfl, ⟨p, cap, all ++ s, off, 0, by rw [List.length_append]; exact hH4, h4', h3, by rw [List.length_append]; omega, by rw [List.length_append]; omega, List.drop_append_of_le_length h4⟩, ?_⟩
    exact hb3.grown hg4 (by have := hb3.size; omega) (fun x hx => h2.base x hx)
  · have hs0 : 0 < s.length := by have := h2.capB.1; omega
    go_enter Tryd.func53, Tryd.ntmps53
    go_wp2_with (first
      | (go_at_call 62; refine (bTry_no p all.length cap off s.length hH1 h2.capB.2 h2.capB.1 (by omega)).mono ?_; rintro e w3 ⟨rfl, rfl⟩)
      | (go_at_call 63; refine (bGrow_any p cap base off s.length all hH1 ho1 h3 h4 (by omega) hs0 (by omega) hB).mono ?_; rintro e w3 ⟨p', cap', rfl, hH3, ho3, hroom, hp', hb3⟩; have c8 := hH3.rest 0; simp at c8)
      | (refine wpList_from bt rfl _ _ rfl p' (all.length - off + s.length) cap' (all.length - off) .i64 _ rfl rfl rfl (by omega) ?_)
      | (refine wpList_copyS bt rfl _ _ 9 rfl base p' cap' (all.drop off) ho3 _ _ _ rfl (by rw [List.length_drop]) s rfl (by omega) (by rw [List.length_drop]; exact hroom) ?_; intro w4 h4' hg4 hs4; have HS4 := Lib.hid hs4; clear hs4))
    go_ret2
    have hH4 := hH3.grown hg4 hp'
    refine ⟨rfl, ⟨p', cap', all.drop off ++ s, 0, 0, by rw [List.length_append, List.length_drop]; exact hH4, h4', hp', Nat.zero_le _, by rw [List.length_append, List.length_drop]; omega, rfl⟩, ?_⟩
    exact (hb1.trans hb3).grown hg4 (by have := hb3.size; simp at this; omega) (fun x hx => ho3.base x hx)
set_option maxHeartbeats 4000000 in
set_option maxRecDepth 100000 in
theorem bufNext_any (H : Buf w base B h nn N c) (hN : N ≤ 100000000) (hc : 64 ≤ c.length) :
    Calls Tryd.prog 56 #[.pointer (some ⟨B, 8, none⟩), .int .i64 64] w fun e w' => ∃ g o cp, e = .returned (.slice (some ⟨g, o, none⟩) 64 cp) ∧ g < w'.heap.size ∧ g ≠ B ∧
      (∀ j, j < 64 → w'.cell? ⟨g, o + j, none⟩ = some (.int .u8 (Sha.gb c j).toNat)) ∧ Buf w' base B h nn N (c.drop 64) ∧ w.grownBy w' (some B) := by
  obtain ⟨i, bt⟩ := btinfo
  obtain ⟨p, cap, all, off, lr, h1, h2, h3, h4, h5, rfl⟩ := H
  have hl := hc
  rw [List.length_drop] at hl
  obtain ⟨g, o, rfl, _, hca, hgl⟩ := h2.isAt (by omega)
  have hgB : g ≠ B := own_ne (n := 0) (cap := 0) h3 rfl
  have hBl := h1.lt
  have f10 := h1.free 10
  have c10 := h1.rest 2
  simp at c10
  have hH1 := h1.setLr 0
  have ho1 : OwnB (w.setCell ⟨B, 10, none⟩ (.int .i8 0)) base (some ⟨g, o, none⟩) cap all := Own.setOther h2 _ _ (fun _ hg => own_ne h3 hg)
  have hlh : ∀ W, (Instr.sliceAt 41 (.slice (some ⟨g, o, none⟩) all.length cap) (some (.int .i64 (off : Int))) (some (.int .i64 ((off : Int) + 64))) none).run Tryd.prog W = .ok (.slice (some ⟨g, o + off, none⟩) 64 (cap - off)) W := fun W => by
    rw [run_sliceAt_slice W _ _ _ _ _ bt.elem, run_slice_lh W _ _ _ _ bt.elem .i64 .i64 _ _ (by omega) (by omega) (by omega), bt.size1]
    have e1 : ((off : Int) + 64).toNat = off + 64 := by omega
    have e2 : ¬ (cap = off) := by omega
    simp [sliced, e1, e2, addr_add]
  have q1 : IntKind.i64.wrap ((off : Int) + 64) = (off : Int) + 64 := IntWalk.i64_in _ (by omega)
  have q2 : ¬ (((all.drop off).length : Int) < 64) := by omega
  rw [List.length_drop] at q2
  go_enter Tryd.func56, Tryd.ntmps56
  go_wp2_with fail
  refine (bLen_any (some ⟨g, o, none⟩) all.length cap off hH1 h4 (by omega)).mono ?_
  rintro e w1 ⟨rfl, k1, hk1⟩
  have hH2 : HashIs w1 B h (.slice (some ⟨g, o, none⟩) all.length cap) off 0 nn := by rw [hk1]; exact hH1.frame rfl
  have ho2 : OwnB w1 base (some ⟨g, o, none⟩) cap all := by rw [hk1]; exact Own.drewN ho1 k1
  have hg2 : w.grownBy w1 (some B) := by rw [hk1]; exact grown_drewN (grown_set (grown_refl w _) _ _) k1
  clear hk1
  have c8 := hH2.rest 0
  have c9 := hH2.rest 1
  have c10 := hH2.rest 2
  simp at c8 c9 c10
  have f9 := hH2.free 9
  have f10 := hH2.free 10
  go_wp2_with fail
  go_quiet (fail)
  have d8 : (w1.drewN nq).cell? ⟨B, 9, none⟩ = some (.int .i64 off) := c9
  have d10 : ∀ u, ((w1.drewN nq).setCell ⟨B, 9, none⟩ u).cell? ⟨B, 10, none⟩ = some (.int .i8 0) := fun u => by rw [World.cell?_setCell_other _ _ _ _ (by simp)]; exact c10
  have e9 : (w1.drewN nq).frozen? ⟨B, 9, none⟩ = false := f9
  have e10 : (w1.drewN nq).frozen? ⟨B, 10, none⟩ = false := f10
  have hH3 : HashIs (w1.drewN nq) B h (.slice (some ⟨g, o, none⟩) all.length cap) off 0 nn := hH2.frame rfl
  have ho3 : OwnB (w1.drewN nq) base (some ⟨g, o, none⟩) cap all := Own.drewN ho2 nq
  have hg3 : w.grownBy (w1.drewN nq) (some B) := grown_drewN hg2 nq
  obtain ⟨w2, hw2⟩ : ∃ w2, w2 = w1.drewN nq := ⟨_, rfl⟩
  rw [← hw2] at d8 d10 e9 e10 hH3 ho3 hg3 ⊢
  clear hw2 c8 c9 c10 f9 f10
  go_wp2_with fail
  go_ret
  have hX := (hH3.setOff ((off : Int) + 64)).setLr (-1)
  have ho4 : OwnB ((w2.setCell ⟨B, 9, none⟩ (.int .i64 ((off : Int) + 64))).setCell ⟨B, 10, none⟩ (.int .i8 (-1))) base (some ⟨g, o, none⟩) cap all :=
    Own.setOther (Own.setOther ho3 _ _ (fun _ hg => own_ne h3 hg)) _ _ (fun _ hg => own_ne h3 hg)
  refine ⟨g, o + off, cap - off, rfl, ?_, hgB, fun j hj => ?_, ⟨some ⟨g, o, none⟩, cap, all, off + 64, -1, ?_, ho4, h3, by omega, h5, by rw [List.drop_drop]⟩, grown_set (grown_set hg3 _ _) _ _⟩
  · have := hg3.size; simp; omega
  · rw [Nat.add_assoc, ho4.cell (by omega), Sha.gb]
    congr 3
    simp [List.getD]
  · rw [show (((off + 64 : Nat)) : Int) = (off : Int) + 64 by omega]; exact hX
end
end Go.Proofs.YtdnigbbfiklaoaaDoor
