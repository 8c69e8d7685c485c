/- The program's Hash: Copy, Sum, Of. -/
import Derived.Test.YtdnigbbfiklaoaaDoorHash
import Derived.Deep.RegionHeld3
namespace Go.Proofs.YtdnigbbfiklaoaaDoor
open Go.RowKit
theorem bts_cell {w : World} {g : Nat} {l : List UInt8} {T : TypeId} (h : w.heap[g]? = some (.cells (bts l).toArray T (0, 0))) {j : Nat} (hj : j < l.length) : w.cell? ⟨g, j, none⟩ = some (.int .u8 ((l.getD j 0).toNat : Int)) := by
  rw [cell_of_row w g j _ _ _ h, List.getElem?_toArray, get_bts hj]
theorem bts_free {w : World} {g : Nat} {l : List UInt8} {T : TypeId} (h : w.heap[g]? = some (.cells (bts l).toArray T (0, 0))) (j : Nat) : w.frozen? ⟨g, j, none⟩ = false := by
  simp [World.frozen?, h]
theorem bts_setA {w : World} {g : Nat} {l : List UInt8} {T : TypeId} (h : w.heap[g]? = some (.cells (bts l).toArray T (0, 0))) (j : Nat) (c : UInt8) : (w.setCell ⟨g, j, none⟩ (.int .u8 (c.toNat : Int))).heap[g]? = some (.cells (bts (l.set j c)).toArray T (0, 0)) := by
  rw [heap_setCell_same w g j _ _ _ h]
  congr 2
  simp [bts, List.map_set]
theorem HashIs.range {w : World} {B : Nat} {h : List UInt32} {v : Value} {off lr n : Int} (H : HashIs w B h v off lr n) : w.rangeAt B 0 (Sha.arr32 h).toList := fun j u hu => by
  have hj : j < 8 := by have := (List.getElem?_eq_some_iff.1 hu).1; simp [Sha.size_arr32, H.1] at this; exact this
  rw [Nat.zero_add, H.word hj, ← Sha.get_arr32 (by rw [H.1]; exact hj)]
  simpa using hu
theorem Buf.range {w : World} {base B : Nat} {h : List UInt32} {nn : Int} {N : Nat} {c : List UInt8} (H : Buf w base B h nn N c) : w.rangeAt B 0 (Sha.arr32 h).toList := by
  obtain ⟨p, cap, all, off, lr, h1, _⟩ := H; exact h1.range
theorem wpStill_load_mid {P : Program} {ops : Array Oper} {w : World} {Q : Act → Prop} {a : Act} {o : Oper} {rest : List Oper} (hgd : o.guard = none) (ty : TypeId) (x : Operand) (ho : o.op = .load ty x)
    (b f : Nat) (hx : a.eval x = .pointer (some ⟨b, f, none⟩)) (cs : List Value) (d : TypeDesc) (hc : w.rangeAt b f cs) (hu : P.underlying ty = some d) (hd : d.isRow = true) (hi : (P.info? ty).map (·.size) = some cs.length)
    (h : wpStill P ops w Q rest (a.put o.dst (.agg cs.toArray))) : wpStill P ops w Q (o :: rest) a :=
  wpStill_val hgd _ (by
    unfold execOp
    simp only [ho, hx, Instr.loadAt, Instr.sureAddr, Sem.run_bind, Sem.run_pure, Result.andThen_ok, run_loadVar_mid w b f ty cs d hc hu hd hi]) h
theorem wpStill_build {P : Program} {ops : Array Oper} {w : World} {Q : Act → Prop} {a : Act} {o : Oper} {rest : List Oper} (hgd : o.guard = none) (t : TypeId) (parts : Array (Nat × Operand)) (ho : o.op = .build t parts) (cs : Array Value)
    (hf : P.built t (parts.map fun (i, x) => (i, a.eval x)).toList = some cs) (h : wpStill P ops w Q rest (a.put o.dst (.agg cs))) : wpStill P ops w Q (o :: rest) a :=
  wpStill_val hgd _ (by
    unfold execOp
    simp only [ho, Sem.run_bind, Sem.run_pure, run_build w t _ cs hf, Result.andThen_ok]) h
theorem built_hash (h : List UInt32) (hl : h.length = 8) (nn : Int) : Tryd.prog.built 98 [(0, .agg (Sha.arr32 h)), (2, .int .u64 nn), (3, .bool true)] = some (hcells h (.slice none 0 0) 0 0 nn).toArray := by
  obtain ⟨h0, h1, h2, h3, h4, h5, h6, h7, rfl⟩ : ∃ h0 h1 h2 h3 h4 h5 h6 h7, h = [h0, h1, h2, h3, h4, h5, h6, h7] := by
    match h, hl with
    | [_, _, _, _, _, _, _, _], _ => exact ⟨_, _, _, _, _, _, _, _, rfl⟩
  unfold hcells Sha.arr32
  kernel_rfl
section
variable {w : World} {B base : Nat} {h : List UInt32} {nn : Int} {N : Nat} {c : List UInt8}
set_option maxHeartbeats 1000000 in
theorem bufBytes_any (p : Option Addr) (cap off : Nat) (all : List UInt8) (lr : Int) (h1 : HashIs w B h (.slice p all.length cap) off lr nn) (h4 : off ≤ all.length) :
    Calls Tryd.prog 68 #[.pointer (some ⟨B, 8, none⟩)] w fun e w' => e = .returned (.slice (tailP p off cap) (all.length - off) (cap - off)) ∧ ∃ k, w' = w.drewN k := by
  obtain ⟨i, bt⟩ := btinfo
  have c8 := h1.rest 0
  have c9 := h1.rest 1
  simp at c8 c9
  have hfrom : ∀ W, (Instr.sliceAt 41 (.slice p all.length cap) (some (.int .i64 (off : Int))) none none).run Tryd.prog W = .ok (.slice (tailP p off cap) (all.length - off) (cap - off)) W := fun W => by
    rw [run_sliceAt_slice W _ _ _ _ _ bt.elem, run_from bt p all.length cap off .i64 h4 W]
  go_enter Tryd.func68, Tryd.ntmps68
  go_wp2_with fail
  go_quiet (fail)
  go_wp2_with fail
  go_ret
  exact ⟨rfl, _, rfl⟩
set_option maxHeartbeats 4000000 in
set_option maxRecDepth 100000 in
theorem bufWrite_any (base2 : Nat) (q : Option Addr) (sc n : Nat) (s : List UInt8) (hn : n = s.length) (hsrcB : ∀ w', Below base w w' → OwnB w' base2 q sc s) (H : Buf w base B h nn N c) (hN : N + s.length ≤ 100000000) (hB : base ≤ B) :
    Calls Tryd.prog 67 #[.pointer (some ⟨B, 8, none⟩), .slice q n sc] w fun e w' => (∃ v, e = .returned v) ∧ Buf w' base B h nn (N + s.length) (c ++ s) ∧ Below base w w' := by
  subst hn
  obtain ⟨i, bt⟩ := btinfo
  obtain ⟨p, cap, all, off, lr, h1, h2, h3, h4, h5, rfl⟩ := H
  have hBl := h1.lt
  have f10 := h1.free 10
  have c10 := h1.rest 2
  simp at c10
  have hH1 := h1.setLr 0
  have ho1 : OwnB (w.setCell ⟨B, 10, none⟩ (.int .i8 0)) base p cap all := Own.setOther h2 _ _ (fun _ hg => own_ne h3 hg)
  have hb1 : Below base w (w.setCell ⟨B, 10, none⟩ (.int .i8 0)) := (Below.refl _ _).setCell (by simpa using hB) _
  by_cases hr : all.length + s.length ≤ cap
  · go_enter Tryd.func67, Tryd.ntmps67
    go_wp2_with (first
      | (go_at_call 62; refine (bTry_room p all.length cap off s.length hH1 h2.add0 h2.capB.2 hr).mono ?_; rintro e w3 ⟨rfl, hH3, hg3, hs3⟩; have HS3 := Lib.hid hs3; clear hs3; have c8 := hH3.rest 0; simp at c8
         have ho3 := Own.grown ho1 hg3 (fun g hg e => h3 (by rw [e]; cases p <;> exact hg))
         have hb3 : Below base w w3 := hb1.grown hg3 (by simp; omega) (fun x hx => by cases hx; exact hB))
      | (refine wpList_from bt rfl _ _ rfl p (all.length + s.length) cap all.length .i64 _ rfl rfl rfl (by omega) ?_)
      | (refine wpList_copyB bt rfl _ _ rfl base p cap all ho3 _ _ _ rfl rfl base2 q sc s.length s rfl rfl (hsrcB _ hb3) (by omega) hr ?_; intro w4 h4' hg4 hs4; have HS4 := Lib.hid hs4; clear hs4))
    go_ret2
    have hH4 := hH3.grown hg4 h3
    refine ⟨⟨_, rfl⟩, ⟨p, cap, all ++ s, off, 0, by rw [List.length_append]; exact hH4, h4', h3, by rw [List.length_append]; omega, by rw [List.length_append]; omega, List.drop_append_of_le_length h4⟩, ?_⟩
    exact hb3.grown hg4 (by have := hb3.size; omega) (fun x hx => h2.base x hx)
  · have hs0 : 0 < s.length := by have := h2.capB.1; omega
    go_enter Tryd.func67, Tryd.ntmps67
    go_wp2_with (first
      | (go_at_call 62; refine (bTry_no p all.length cap off s.length hH1 h2.capB.2 h2.capB.1 (by omega)).mono ?_; rintro e w3 ⟨rfl, rfl⟩)
      | (go_at_call 63; refine (bGrow_any p cap base off s.length all hH1 ho1 h3 h4 (by omega) hs0 (by omega) hB).mono ?_; rintro e w3 ⟨p', cap', rfl, hH3, ho3, hroom, hp', hb3⟩; have c8 := hH3.rest 0; simp at c8)
      | (refine wpList_from bt rfl _ _ rfl p' (all.length - off + s.length) cap' (all.length - off) .i64 _ rfl rfl rfl (by omega) ?_)
      | (refine wpList_copyB bt rfl _ _ rfl base p' cap' (all.drop off) ho3 _ _ _ rfl (by rw [List.length_drop]) base2 q sc s.length s rfl rfl (hsrcB _ (hb1.trans hb3)) (by omega) (by rw [List.length_drop]; exact hroom) ?_; intro w4 h4' hg4 hs4; have HS4 := Lib.hid hs4; clear hs4))
    go_ret2
    have hH4 := hH3.grown hg4 hp'
    refine ⟨⟨_, rfl⟩, ⟨p', cap', all.drop off ++ s, 0, 0, by rw [List.length_append, List.length_drop]; exact hH4, h4', hp', Nat.zero_le _, by rw [List.length_append, List.length_drop]; omega, rfl⟩, ?_⟩
    exact (hb1.trans hb3).grown hg4 (by have := hb3.size; simp at this; omega) (fun x hx => ho3.base x hx)
end
set_option maxHeartbeats 4000000 in
set_option maxRecDepth 100000 in
theorem hCopy_any {w : World} {B base : Nat} {h : List UInt32} {nn : Int} {N : Nat} {c : List UInt8} (H : Buf w base B h nn N c) (hcN : c.length ≤ 50000000) :
    Calls Tryd.prog 57 #[.pointer (some ⟨B, 0, none⟩)] w fun e w' => e = .returned (.pointer (some ⟨w.heap.size, 0, none⟩)) ∧ Buf w' w.heap.size w.heap.size h nn c.length c ∧ Below w.heap.size w w' := by
  obtain ⟨c11, c12, f11⟩ := H.cells
  have hr8 := H.range
  have h8 := H.len
  have hBl := H.lt
  have h8' : (Sha.arr32 h).toList.length = 8 := by simp [Sha.size_arr32, h8]
  have HR := Lib.hid hr8; clear hr8
  have L8 := Lib.hid h8'; clear h8'
  go_enter Tryd.func57, Tryd.ntmps57
  go_wp2_with fail
  refine (hNone_any H).mono ?_
  rintro e w1 ⟨rfl, hw1⟩
  have hw1 := hw1.symm
  subst hw1
  go_wp2_with fail
  refine wp_region_still_tail 9 (by kernel_rfl) (by kernel_rfl) ?_
  simp only [List.take_succ_cons, List.take_zero, List.drop_succ_cons, List.drop_zero]
  repeat (first | (refine wpStill_load_mid rfl 81 _ rfl B 0 rfl (Sha.arr32 h).toList _ HR.out Tryd.underlying81 rfl (by rw [L8.out]; kernel_rfl) ?_) | (refine wpStill_build rfl 98 _ rfl (hcells h (.slice none 0 0) 0 0 nn).toArray ((congrArg (Tryd.prog.built 98) (by kernel_rfl)).trans (built_hash h h8 nn)) ?_) | still_step)
  refine wpStill_nil ?_
  go_wp2_with fail
  have hb2 : Below w.heap.size w (w.alloc (.cells (hcells h (.slice none 0 0) 0 0 nn).toArray 98)).drew := ((Below.refl _ _).alloc (Nat.le_refl _) _).drew
  have hX2 : Buf (w.alloc (.cells (hcells h (.slice none 0 0) 0 0 nn).toArray 98)).drew w.heap.size w.heap.size h nn 0 [] :=
    ⟨none, 0, [], 0, 0, ⟨h8, heap_alloc_last w _⟩, OwnB.nil _ _, by simp, Nat.le_refl _, Nat.le_refl _, rfl⟩
  obtain ⟨p, cap, all, off, lr, a1, a2, a3, a4, a5, rfl⟩ := H
  have hot := OwnB.tail a2 off a4
  have hoW : ∀ W, Below w.heap.size w W → OwnB W base (tailP p off cap) (cap - off) (all.drop off) := fun W hW => Own.frame hot (fun g _ hl => hW.block g hl)
  have a1' : HashIs (w.alloc (.cells (hcells h (.slice none 0 0) 0 0 nn).toArray 98)).drew B h (.slice p all.length cap) off lr nn := a1.frame (hb2.block _ hBl)
  obtain ⟨w2, hw2⟩ : ∃ w2, w2 = (w.alloc (.cells (hcells h (.slice none 0 0) 0 0 nn).toArray 98)).drew := ⟨_, rfl⟩
  rw [← hw2] at hb2 hX2 a1' ⊢
  clear hw2
  have hdl : all.length - off = (all.drop off).length := by rw [List.length_drop]
  have HDL := Lib.hid hdl; clear hdl
  go_region_held3 (fun _ => True) (trivial)
    (first
      | (go_at_call 68; refine (bufBytes_any (w := w2.drew) p cap off all lr (a1'.frame rfl) a4).mono ?_; rintro e w3 ⟨rfl, k3, hk3⟩)
      | (go_at_call 67; subst hk3; refine (bufWrite_any base (tailP p off cap) (cap - off) (all.length - off) (all.drop off) HDL.out (fun w' hb => hoW w' ((below_dn hb2 (1 + k3)).trans hb)) (hX2.drewN (1 + k3)) (by rw [Nat.zero_add]; exact Nat.le_trans hcN (by decide)) (Nat.le_refl _)).mono ?_; rintro e w4 ⟨⟨v, rfl⟩, h4, hb4⟩))
  rw [Nat.zero_add, List.nil_append] at h4
  go_wp2_with fail
  go_ret
  exact ⟨rfl, h4, (below_dn hb2 (1 + k3)).trans hb4⟩
end Go.Proofs.YtdnigbbfiklaoaaDoor
