/- The buffer within a Hash: growing. -/
import Derived.Test.YtdnigbbfiklaoaaDoorShaRefOf
import Derived.Test.YtdnigbbfiklaoaaDoorShaProg
import Derived.Test.YtdnigbbfiklaoaaDoorCuts
import Derived.Lib.Walk
import Derived.Lib.ByteType
import Derived.Shelf.Abstract
import Derived.Defers
import Derived.Recover
import Derived.Deep.DeepCutAuto
import Derived.Deep.RegionWith
import Derived.BigCall
import Derived.BigGuard
namespace Go.Proofs.YtdnigbbfiklaoaaDoor
open Go.RowKit
theorem HashIs.setV {w : World} {B : Nat} {h : List UInt32} {v : Value} {off lr n : Int} (H : HashIs w B h v off lr n) (u : Value) : HashIs (w.setCell ⟨B, 8, none⟩ u) B h u off lr n := by
  obtain ⟨hl, hb⟩ := H
  refine ⟨hl, ?_⟩
  rw [heap_setCell_same w B 8 _ _ _ hb]
  have h8 : (Sha.arr32 h).size = 8 := by rw [Sha.size_arr32, hl]
  simp [hcells, List.set_append_right, h8]
theorem HashIs.setOff {w : World} {B : Nat} {h : List UInt32} {v : Value} {off lr n : Int} (H : HashIs w B h v off lr n) (u : Int) : HashIs (w.setCell ⟨B, 9, none⟩ (.int .i64 u)) B h v u lr n := by
  obtain ⟨hl, hb⟩ := H
  refine ⟨hl, ?_⟩
  rw [heap_setCell_same w B 9 _ _ _ hb]
  have h8 : (Sha.arr32 h).size = 8 := by rw [Sha.size_arr32, hl]
  simp [hcells, List.set_append_right, h8]
theorem HashIs.setLr {w : World} {B : Nat} {h : List UInt32} {v : Value} {off lr n : Int} (H : HashIs w B h v off lr n) (u : Int) : HashIs (w.setCell ⟨B, 10, none⟩ (.int .i8 u)) B h v off u n := by
  obtain ⟨hl, hb⟩ := H
  refine ⟨hl, ?_⟩
  rw [heap_setCell_same w B 10 _ _ _ hb]
  have h8 : (Sha.arr32 h).size = 8 := by rw [Sha.size_arr32, hl]
  simp [hcells, List.set_append_right, h8]
theorem HashIs.setN {w : World} {B : Nat} {h : List UInt32} {v : Value} {off lr n : Int} (H : HashIs w B h v off lr n) (u : Int) : HashIs (w.setCell ⟨B, 11, none⟩ (.int .u64 u)) B h v off lr u := by
  obtain ⟨hl, hb⟩ := H
  refine ⟨hl, ?_⟩
  rw [heap_setCell_same w B 11 _ _ _ hb]
  have h8 : (Sha.arr32 h).size = 8 := by rw [Sha.size_arr32, hl]
  simp [hcells, List.set_append_right, h8]
theorem HashIs.grown {w w' : World} {B : Nat} {h : List UInt32} {v : Value} {off lr n : Int} (H : HashIs w B h v off lr n) {row : Option Nat} (hg : w.grownBy w' row) (hr : row ≠ some B) : HashIs w' B h v off lr n :=
  H.frame (hg.block B H.lt (fun e => hr e.symm))

section
variable {w : World} {B : Nat} {h : List UInt32} {v : Value} {lr nn : Int}
set_option maxHeartbeats 1000000 in
theorem bLen_any (p : Option Addr) (len cap off : Nat) (hH : HashIs w B h (.slice p len cap) off lr nn) (ho : off ≤ len) (hl : len ≤ 1000000000) :
    Calls Tryd.prog 54 #[.pointer (some ⟨B, 8, none⟩)] w fun e w' => e = .returned (.int .i64 ((len - off : Nat) : Int)) ∧ ∃ k, w' = w.drewN k := by
  have c8 := hH.rest 0
  have c9 := hH.rest 1
  have q1 : IntKind.i64.wrap ((len : Int) - (off : Int)) = ((len - off : Nat) : Int) := by rw [IntWalk.i64_in _ (by omega)]; omega
  simp at c8 c9
  go_enter Tryd.func54, Tryd.ntmps54
  go_wp2_with fail
  go_quiet (fail)
  go_wp2_with fail
  go_ret
  exact ⟨rfl, _, rfl⟩
set_option maxHeartbeats 1000000 in
theorem bTry_room (p : Option Addr) (len cap : Nat) (off : Int) (n : Nat) (hH : HashIs w B h (.slice p len cap) off lr nn) (hp : ∀ a, p = some a → a.add 0 = a) (hc : cap ≤ maxLen) (hn : len + n ≤ cap) :
    Calls Tryd.prog 62 #[.pointer (some ⟨B, 8, none⟩), .int .i64 (n : Int)] w fun e w' => e = .returned (.tuple #[.int .i64 (len : Int), .bool true]) ∧ HashIs w' B h (.slice p (len + n) cap) off lr nn ∧ w.grownBy w' (some B) ∧ w'.heap.size = w.heap.size := by
  obtain ⟨i, bt⟩ := btinfo
  have c8 := hH.rest 0
  have f8 := hH.free 8
  simp at c8
  simp only [maxLen] at hc
  have q1 : IntKind.i64.wrap ((cap : Int) - (len : Int)) = (cap : Int) - (len : Int) := IntWalk.i64_in _ (by omega)
  have q2 : (n : Int) ≤ (cap : Int) - (len : Int) := by omega
  have q3 : IntKind.i64.wrap ((len : Int) + (n : Int)) = ((len + n : Nat) : Int) := by rw [IntWalk.i64_in _ (by omega)]; omega
  go_enter Tryd.func62, Tryd.ntmps62
  go_wp2_with (first
    | (refine wpList_to bt rfl _ _ rfl p len cap (len + n) .i64 _ rfl rfl (by first | rfl | omega) hp hn ?_))
  go_ret2
  exact ⟨rfl, hH.setV _, grown_set (w' := w) ⟨rfl, rfl, rfl, Nat.le_refl _, fun _ _ _ => rfl⟩ _ _, by simp⟩
set_option maxHeartbeats 1000000 in
theorem bTry_no (p : Option Addr) (len cap : Nat) (off : Int) (n : Nat) (hH : HashIs w B h (.slice p len cap) off lr nn) (hc : cap ≤ maxLen) (hlc : len ≤ cap) (hn : cap < len + n) :
    Calls Tryd.prog 62 #[.pointer (some ⟨B, 8, none⟩), .int .i64 (n : Int)] w fun e w' => e = .returned (.tuple #[.int .i64 0, .bool false]) ∧ w' = w := by
  have c8 := hH.rest 0
  simp at c8
  simp only [maxLen] at hc
  have q1 : IntKind.i64.wrap ((cap : Int) - (len : Int)) = (cap : Int) - (len : Int) := IntWalk.i64_in _ (by omega)
  have q2 : ¬ ((n : Int) ≤ (cap : Int) - (len : Int)) := by omega
  go_enter Tryd.func62, Tryd.ntmps62
  go_wp2_with fail
  go_ret2
  exact ⟨rfl, rfl⟩
set_option maxHeartbeats 1000000 in
theorem bReset_any (p : Option Addr) (len cap : Nat) (off : Int) (hH : HashIs w B h (.slice p len cap) off lr nn) (hp : ∀ a, p = some a → a.add 0 = a) :
    Calls Tryd.prog 69 #[.pointer (some ⟨B, 8, none⟩)] w fun e w' => e = .returned (.tuple #[]) ∧ HashIs w' B h (.slice p 0 cap) 0 0 nn ∧ w.grownBy w' (some B) ∧ w'.heap.size = w.heap.size := by
  obtain ⟨i, bt⟩ := btinfo
  have c8 := hH.rest 0
  have f8 := hH.free 8
  have f9 := hH.free 9
  have f10 := hH.free 10
  have c9 := hH.rest 1
  have c10 := hH.rest 2
  simp at c8 c9 c10
  go_enter Tryd.func69, Tryd.ntmps69
  go_wp2_with (first
    | (refine wpList_to bt rfl _ _ rfl p len cap 0 .i64 _ rfl rfl rfl hp (Nat.zero_le _) ?_))
  go_end0
  exact ⟨rfl, ((hH.setV _).setOff _).setLr _, grown_set (grown_set (grown_set (w' := w) ⟨rfl, rfl, rfl, Nat.le_refl _, fun _ _ _ => rfl⟩ _ _) _ _) _ _, by simp⟩
end
/-- growSlice's catch: nothing to recover. -/
theorem gCatch_idle (w : World) : CallsD Tryd.prog 71 #[] .returning w fun e u' w' => e = .returned (.tuple #[]) ∧ u' = .returning ∧ w' = w := by
  have hnn : ∀ w, (binOp .neq 20 .nilIface .nilIface).run Tryd.prog w = .ok (.bool false) w := fun w => Lib.run_neq_nil_nil w Tryd.underlying20
  refine callsD_of_wpS Tryd.func71 rfl fun c₀ cs hu => ?_
  apply wpS_seq
  apply wpS_region
  simp [wpOpsS, go_sem, recoverD, hu, hnn, Tryd.ntmps71, Exit.thenS]
  refine wpS_cond (t := false) (by simp [Act.eval, Array.replicate]) ?_
  simp only [Bool.false_eq_true, if_false]
  refine wpS_of_wp (wp_skip ?_)
  cases c₀
  simp_all [bodyPostS, results, Tryd.results71]
set_option maxHeartbeats 4000000 in
set_option maxRecDepth 100000 in
theorem gSlice_any (p : Option Addr) (cap base m : Nat) (l : List UInt8) (n : Nat) (c : Int) (w : World) (hm : m = l.length) (hcn : c = n) (ho : OwnB w base p cap l) (hl : l.length + n ≤ 1000000000) (hc : cap ≤ 1000000000) (hn : 0 < n) :
    Calls Tryd.prog 70 #[.slice p m cap, .int .i64 c] w fun e w' => ∃ cap', e = .returned (.slice (some ⟨w.heap.size, 0, none⟩) m cap') ∧ OwnB w' w.heap.size (some ⟨w.heap.size, 0, none⟩) cap' l ∧ l.length + n ≤ cap' ∧ Below w.heap.size w w' := by
  obtain ⟨i, bt⟩ := btinfo
  subst hm; subst hcn
  have hpb : ∀ w', Below w.heap.size w w' → OwnB w' base p cap l := fun w' hb => Own.frame ho (fun g _ hl => hb.block g hl)
  have hlc := ho.capB.1
  have hp := ho.add0
  have q2 : IntKind.i64.wrap ((l.length : Int) + (n : Int)) = (l.length : Int) + (n : Int) := IntWalk.i64_in _ (by omega)
  have q3 : IntKind.i64.wrap (2 * (cap : Int)) = 2 * (cap : Int) := IntWalk.i64_in _ (by omega)
  by_cases hC : l.length + n < 2 * cap
  · have q4 : (l.length : Int) + (n : Int) < 2 * (cap : Int) := by omega
    go_enter_defers Tryd.func70, Tryd.ntmps70
    go_wp2_with (first
      | (refine wpList_zeros bt rfl _ _ 3 .i64 .i64 Tryd.underlying3 rfl rfl (2 * cap) _ rfl (by first | rfl | omega) (by omega) (by omega) ?_; intro cap2 w1 h1 hge hs1 hb1; have HS1 := Lib.hid hs1; clear hs1)
      | (refine wpList_copyB bt rfl _ _ rfl _ _ cap2 [] h1 _ (2 * cap) cap2 rfl (by simp [tailP_zero]) base p cap l.length l rfl rfl (hpb _ hb1) (by omega) (by simp; omega) ?_; rw [List.nil_append]; intro w2 h2 hg2 hs2; have HS2 := Lib.hid hs2; clear hs2)
      | (refine wpList_to bt rfl _ _ rfl _ _ cap2 l.length .i64 _ rfl rfl (by first | rfl | omega) h2.add0 (by omega) ?_))
    refine leaves_cons (f := 71) (args := #[]) (by simp) (enters_of Tryd.func71 (by kernel_rfl) rfl _ _) ?_
    refine (gCatch_idle _).mono ?_
    rintro e u' w'' ⟨rfl, rfl, rfl⟩
    refine ⟨_, results_tmp rfl _ _ _, ?_⟩
    exact ⟨cap2, rfl, h2, by omega, hb1.grown hg2 hb1.size (fun x hx => by cases hx; exact Nat.le_refl _)⟩
  · have q4 : ¬ ((l.length : Int) + (n : Int) < 2 * (cap : Int)) := by omega
    go_enter_defers Tryd.func70, Tryd.ntmps70
    go_wp2_with (first
      | (refine wpList_zeros bt rfl _ _ 3 .i64 .i64 Tryd.underlying3 rfl rfl (l.length + n) _ rfl (by first | rfl | omega) (by omega) (by omega) ?_; intro cap2 w1 h1 hge hs1 hb1; have HS1 := Lib.hid hs1; clear hs1)
      | (refine wpList_copyB bt rfl _ _ rfl _ _ cap2 [] h1 _ (l.length + n) cap2 rfl (by simp [tailP_zero]) base p cap l.length l rfl rfl (hpb _ hb1) (by omega) (by simp; omega) ?_; rw [List.nil_append]; intro w2 h2 hg2 hs2; have HS2 := Lib.hid hs2; clear hs2)
      | (refine wpList_to bt rfl _ _ rfl _ _ cap2 l.length .i64 _ rfl rfl (by first | rfl | omega) h2.add0 (by omega) ?_))
    refine leaves_cons (f := 71) (args := #[]) (by simp) (enters_of Tryd.func71 (by kernel_rfl) rfl _ _) ?_
    refine (gCatch_idle _).mono ?_
    rintro e u' w'' ⟨rfl, rfl, rfl⟩
    refine ⟨_, results_tmp rfl _ _ _, ?_⟩
    exact ⟨cap2, rfl, h2, by omega, hb1.grown hg2 hb1.size (fun x hx => by cases hx; exact Nat.le_refl _)⟩
section
variable {w : World} {B : Nat} {h : List UInt32} {nn : Int}
set_option maxHeartbeats 4000000 in
set_option maxRecDepth 100000 in
theorem bGrow_any (p : Option Addr) (cap base off n : Nat) (all : List UInt8) (hH : HashIs w B h (.slice p all.length cap) off 0 nn) (ho : OwnB w base p cap all) (hp : p.map (·.block) ≠ some B) (hoff : off ≤ all.length)
    (hno : cap < all.length + n) (hn : 0 < n) (hb : all.length + n ≤ 100000000) (hB : base ≤ B) :
    Calls Tryd.prog 63 #[.pointer (some ⟨B, 8, none⟩), .int .i64 (n : Int)] w fun e w' => ∃ p' cap', e = .returned (.int .i64 ((all.length - off : Nat) : Int)) ∧ HashIs w' B h (.slice p' (all.length - off + n) cap') 0 0 nn ∧
      OwnB w' base p' cap' (all.drop off) ∧ all.length - off + n ≤ cap' ∧ p'.map (·.block) ≠ some B ∧ Below base w w' := by
  obtain ⟨i, bt⟩ := btinfo
  have hlc := ho.capB.1
  have hBl := hH.lt
  go_enter Tryd.func63, Tryd.ntmps63
  go_upto_region 2 with (go_at_call 54; refine (bLen_any p all.length cap off hH hoff (by omega)).mono ?_; rintro e w1 ⟨rfl, k1, hk1⟩)
  subst hk1
  have hH1 : HashIs (w.drewN k1) B h (.slice p all.length cap) off 0 nn := hH.frame rfl
  have ho1 : OwnB (w.drewN k1) base p cap all := Own.drewN ho k1
  have hb1 : Below base w (w.drewN k1) := ⟨rfl, rfl, rfl, Nat.le_refl _, fun _ _ => rfl⟩
  obtain ⟨w1, hw1⟩ : ∃ w1, w1 = w.drewN k1 := ⟨_, rfl⟩
  rw [← hw1] at hH1 ho1 hb1 ⊢
  clear hw1
  have c9 := hH1.rest 1
  simp at c9
  go_cut [5, 19] (fun s5 s19 wx => s5 = .int .i64 ((all.length - off : Nat) : Int) ∧ s19 = .bool (decide (all.length = off ∧ off ≠ 0)) ∧ wx = w1)
  case first =>
    by_cases hm : all.length = off
    · have d1 : all.length - off = 0 := by omega
      have d2 : decide (all.length = off ∧ off ≠ 0) = ((off : Int) != 0) := by
        rw [Bool.eq_iff_iff, decide_eq_true_iff, bne_iff_ne]; omega
      have D2 := Lib.hid d2; clear d2
      clear hm
      go_wp2_with fail
      go_meet
      case rel => exact ⟨by rw [d1], by rw [D2.out], rfl⟩
    · have d1 : (((all.length - off : Nat) : Int) == 0) = false := by rw [beq_eq_false_iff_ne]; omega
      have d2 : decide (all.length = off ∧ off ≠ 0) = false := by rw [decide_eq_false_iff_not]; omega
      have D2 := Lib.hid d2; clear d2
      clear hm
      go_wp2_with fail
      go_meet
      case rel => exact ⟨rfl, by rw [D2.out], rfl⟩
  case rest =>
  obtain ⟨rfl, rfl, rfl⟩ := hcut
  go_upto_if 19 with fail
  go_cut [5] (fun s5 wx => s5 = .int .i64 ((all.length - off : Nat) : Int) ∧ ∃ (all1 : List UInt8) (off1 : Nat), HashIs wx B h (.slice p all1.length cap) off1 0 nn ∧ OwnB wx base p cap all1 ∧ all1.drop off1 = all.drop off ∧ off1 ≤ all1.length ∧ all1.length ≤ all.length ∧ Below base w wx ∧
    (all1.length + n ≤ cap → all1 = []))
  case first =>
    by_cases hm : all.length = off ∧ off ≠ 0
    · have d1 : decide (all.length = off ∧ off ≠ 0) = true := decide_eq_true hm
      rw [d1]
      go_wp2_with (go_at_call 69; refine (bReset_any p all.length cap off hH1 ho.add0).mono ?_; rintro e w2 ⟨rfl, hH2, hg2, hs2⟩; have HS2 := Lib.hid hs2; clear hs2)
      go_meet
      case rel =>
        refine ⟨by rw [show all.length - off = 0 by omega]; rfl, [], 0, hH2, ?_, ?_, Nat.le_refl _, Nat.zero_le _, hb1.grown hg2 (by have := hb1.size; omega) (fun x hx => by cases hx; exact hB), fun _ => rfl⟩
        · exact Own.grown (OwnB.take ho1 0) hg2 (fun g hg e => hp (by rw [e]; cases p <;> exact hg))
        · exact (List.drop_eq_nil_of_le (by omega)).symm
    · have d1 : decide (all.length = off ∧ off ≠ 0) = false := decide_eq_false hm
      rw [d1]
      go_wp2_with fail
      go_meet
      case rel => exact ⟨rfl, all, off, hH1, ho1, rfl, hoff, Nat.le_refl _, hb1, fun h => by omega⟩
  case rest =>
  obtain ⟨rfl, all1, off1, hH2, ho2, hd, ho1f, hle1, hb2, hroomE⟩ := hcut
  have hfrom : ∀ W, (Instr.sliceAt 41 (.slice p all1.length cap) (some (.int .i64 (off1 : Int))) none none).run Tryd.prog W = .ok (.slice (tailP p off1 cap) (all1.length - off1) (cap - off1)) W := fun W => by
    rw [run_sliceAt_slice W _ _ _ _ _ bt.elem, run_from bt p all1.length cap off1 .i64 ho1f W]
  have HF := Lib.hid hfrom; clear hfrom
  have hm : all.length - off = all1.length - off1 := by
    have := congrArg List.length hd
    rw [List.length_drop, List.length_drop] at this
    omega
  have hB2 : base ≤ wc.heap.size := by have := hb2.size; omega
  have hH2l := hH2.lt
  rw [hm]
  have HD := Lib.hid hd; clear hd
  have HM := Lib.hid hm; clear hm
  clear hH1 ho1 hb1 c9 hH hoff
  by_cases hr : all1.length + n ≤ cap
  · have e1 := hroomE hr
    subst e1
    have e2 : off1 = 0 := by simpa using ho1f
    subst e2
    go_wp2_with (go_at_call 62; refine (bTry_room p 0 cap 0 n hH2 ho2.add0 ho2.capB.2 hr).mono ?_; rintro e w3 ⟨rfl, hH3, hg3, hs3⟩; have HS3 := Lib.hid hs3; clear hs3)
    go_ret
    rw [HM.out, ← HD.out]
    refine ⟨p, cap, rfl, hH3, ?_, hr, hp, hb2.grown hg3 hB2 (fun x hx => by cases hx; exact hB)⟩
    exact Own.grown ho2 hg3 (fun g hg e => hp (by rw [e]; cases p <;> exact hg))
  · have c8 := hH2.rest 0
    have c9 := hH2.rest 1
    have f8 := hH2.free 8
    have f9 := hH2.free 9
    simp at c8 c9
    have hcm := ho2.capB.2
    have hlc2 := ho2.capB.1
    have hm1 : ((all1.length - off1 : Nat) : Int) = (all1.length : Int) - (off1 : Int) := by omega
    have HM1 := Lib.hid hm1; clear hm1
    rcases ho2.shape with ⟨rfl, rfl, rfl⟩ | ⟨g, o, rfl, hbg⟩
    · have e2 : off1 = 0 := by simpa using ho1f
      subst e2
      have hnil : ∀ W, (binOp .eql 41 (.slice none 0 0) (.slice none 0 0)).run Tryd.prog W = .ok (.bool true) W := fun W => run_eql_slice_nil W _ _ none 0 0 bt.ht
      by_cases hn64 : n ≤ 64
      · have q1 : (n : Int) ≤ 64 := by omega
        go_wp2_with (first
          | (go_at_call 62; refine (bTry_no none 0 0 0 n hH2 hcm hlc2 (by simpa using hn)).mono ?_; rintro e w3 ⟨rfl, rfl⟩)
          | (refine wpList_mkc bt rfl _ _ rfl n 64 .i64 .i64 _ _ rfl rfl rfl rfl hn64 (by decide) ?_; intro w4 h4 hs4 hb4; have hH4 := hH2.frame (hb4.block _ hH2l); have c8 := hH4.rest 0; simp at c8; have f8 := hH4.free 8; have HS4 := Lib.hid hs4; clear hs4))
        go_ret
        rw [HM.out, ← HD.out]
        refine ⟨some ⟨w3.heap.size, 0, none⟩, 64, rfl, by simpa using hH4.setV (.slice (some ⟨w3.heap.size, 0, none⟩) n 64), ?_, by simpa using hn64, by simp; omega, ?_⟩
        · exact Own.setOther (Own.mono h4 hB2) _ _ (fun g hg => by cases hg; simp; omega)
        · exact (hb2.trans (hb4.mono hB2)).setCell (by simpa using hB) _
      · have q1 : ¬ ((n : Int) ≤ 64) := by omega
        have q2 : ¬ ((n : Int) ≤ 0) := by omega
        go_wp2_with (first
          | (go_at_call 62; refine (bTry_no none 0 0 0 n hH2 hcm hlc2 (by simpa using hn)).mono ?_; rintro e w3 ⟨rfl, rfl⟩))
        have hfrom := HF.out
        have hwn : IntKind.i64.wrap (n : Int) = n := IntWalk.i64_in _ (by omega)
        go_region_with (
            go_at_call 70
            refine (gSlice_any _ _ base _ [] n _ _ rfl rfl ?_ (by simp; omega) (by omega) hn).mono ?_
            exact Own.frame ho2 fun _ _ _ => rfl
            rintro e w4 ⟨cap4, rfl, h4, hge, hb4⟩
            have hH4 := hH2.frame (hb4.block _ hH2l); have c8 := hH4.rest 0; have c9 := hH4.rest 1; simp at c8 c9; have f8 := hH4.free 8; have f9 := hH4.free 9)
        all_goals (
          go_wp2_with (first
            | (refine wpList_to bt rfl _ _ rfl _ _ cap4 n .i64 _ rfl rfl rfl h4.add0 (by simpa using hge) ?_))
          go_ret
          rw [HM.out, ← HD.out]
          have hX := ((hH4.setV (.slice (some ⟨w3.heap.size, 0, none⟩) 0 cap4)).setOff 0).setV (.slice (some ⟨w3.heap.size, 0, none⟩) n cap4)
          refine ⟨some ⟨w3.heap.size, 0, none⟩, cap4, rfl, by simpa using hX, ?_, by simpa using hge, by simp; omega, ?_⟩
          · exact Own.setOther (Own.setOther (Own.setOther (Own.mono h4 hB2) _ _ (fun g hg => by cases hg; simp; omega)) _ _ (fun g hg => by cases hg; simp; omega)) _ _ (fun g hg => by cases hg; simp; omega)
          · exact (((hb2.drew.trans (hb4.mono (show base ≤ w3.drew.heap.size from hB2))).setCell (by simpa using hB) _).setCell (by simpa using hB) _).setCell (by simpa using hB) _)
    · have hgB : g ≠ B := fun e => hp (by rw [e]; rfl)
      have hdl : all1.length - off1 = (all1.drop off1).length := by rw [List.length_drop]
      have HDL := Lib.hid hdl; clear hdl
      have hnil : ∀ W, (binOp .eql 41 (.slice (some ⟨g, o, none⟩) all1.length cap) (.slice none 0 0)).run Tryd.prog W = .ok (.bool false) W := fun W => run_eql_slice_nil W _ _ (some ⟨g, o, none⟩) all1.length cap bt.ht
      have q3 : IntKind.i64.wrap ((off1 : Int) + (n : Int)) = (off1 : Int) + (n : Int) := IntWalk.i64_in _ (by omega)
      have q4 : IntKind.i64.wrap (((all1.length - off1 : Nat) : Int) + (n : Int)) = ((all1.length - off1 + n : Nat) : Int) := by rw [IntWalk.i64_in _ (by omega)]; omega
      by_cases hsl : n ≤ cap / 2 - (all1.length - off1)
      · have q5 : (n : Int) ≤ (cap : Int) / 2 - ((all1.length - off1 : Nat) : Int) := by omega
        have q6 : IntKind.i64.wrap ((cap : Int) / 2 - ((all1.length - off1 : Nat) : Int)) = (cap : Int) / 2 - ((all1.length - off1 : Nat) : Int) := IntWalk.i64_in _ (by omega)
        go_wp2_with (first
          | (go_at_call 62; refine (bTry_no _ all1.length cap off1 n hH2 hcm hlc2 (by omega)).mono ?_; rintro e w3 ⟨rfl, rfl⟩))
        have ho0 : OwnB w3 base (some ⟨g, o, none⟩) cap [] := by simpa using OwnB.take ho2 0
        have hot := OwnB.tail ho2 off1 ho1f
        refine wp_region_still_tail 13 (by kernel_rfl) (by kernel_rfl) ?_
        simp only [List.take_succ_cons, List.take_zero, List.drop_succ_cons, List.drop_zero]
        repeat (first | (refine wpStill_from bt rfl _ _ rfl _ all1.length cap off1 .i64 _ rfl rfl rfl ho1f ?_) | still_step)
        refine wpStill_nil ?_
        refine wpList_copyB bt rfl _ _ rfl base _ cap [] (Own.drew ho0) _ all1.length cap rfl (by simp [tailP_zero]) base _ (cap - off1) (all1.length - off1) (all1.drop off1) rfl HDL.out (Own.drew hot) (Nat.sub_le _ _) (by simp; omega) ?_
        intro w5 h5 hg5 hs5
        have HS5 := Lib.hid hs5; clear hs5
        rw [List.nil_append] at h5
        have hH5 := HashIs.grown (w := w3.drew) (hH2.frame rfl) hg5 (by simpa using hgB)
        have c8 := hH5.rest 0
        have c9 := hH5.rest 1
        simp at c8 c9
        have f8 := hH5.free 8
        have f9 := hH5.free 9
        go_wp2_with (first
          | (refine wpList_to bt rfl _ _ rfl _ all1.length cap (all1.length - off1 + n) .i64 _ rfl rfl rfl h5.add0 (by omega) ?_))
        go_ret
        rw [HM.out, ← HD.out]
        have hX := (hH5.setOff 0).setV (.slice (some ⟨g, o, none⟩) (all1.length - off1 + n) cap)
        have h9 : Below base w w5 := Below.grown hb2.drew hg5 (by exact hB2) (fun x hx => by cases hx; exact hbg)
        refine ⟨rfl, some ⟨g, o, none⟩, cap, hX, ?_, by omega, fun a ha => by cases ha; exact hgB, ?_⟩
        · exact Own.setOther (Own.setOther h5 _ _ (fun g hg => by cases hg; exact hgB)) _ _ (fun g hg => by cases hg; exact hgB)
        · exact (h9.setCell (by simpa using hB) _).setCell (by simpa using hB) _
      · have q5 : ¬ ((n : Int) ≤ (cap : Int) / 2 - ((all1.length - off1 : Nat) : Int)) := by omega
        have q6 : IntKind.i64.wrap ((cap : Int) / 2 - ((all1.length - off1 : Nat) : Int)) = (cap : Int) / 2 - ((all1.length - off1 : Nat) : Int) := IntWalk.i64_in _ (by omega)
        go_wp2_with (first
          | (go_at_call 62; refine (bTry_no _ all1.length cap off1 n hH2 hcm hlc2 (by omega)).mono ?_; rintro e w3 ⟨rfl, rfl⟩))
        have hot := OwnB.tail ho2 off1 ho1f
        have hfrom := HF.out
        go_region_with (
            go_at_call 70
            refine (gSlice_any _ _ base _ (all1.drop off1) (off1 + n) _ _ HDL.out ?_ ?_ (by rw [← HDL.out]; omega) (by omega) (by omega)).mono ?_
            omega
            exact Own.frame hot fun _ _ _ => rfl
            rintro e w4 ⟨cap4, rfl, h4, hge, hb4⟩
            have hH4 := hH2.frame (hb4.block _ hH2l); have c8 := hH4.rest 0; have c9 := hH4.rest 1; simp at c8 c9; have f8 := hH4.free 8; have f9 := hH4.free 9; have HGE := Lib.hid hge; clear hge)
        all_goals (
          go_wp2_with (first
            | (refine wpList_to bt rfl _ _ rfl _ _ cap4 (all1.length - off1 + n) .i64 _ rfl rfl rfl h4.add0 (by have := HGE.out; rw [← HDL.out] at this; omega) ?_))
          go_ret
          rw [HM.out, ← HD.out]
          have hX := ((hH4.setV (.slice (some ⟨w3.heap.size, 0, none⟩) (all1.length - off1) cap4)).setOff 0).setV (.slice (some ⟨w3.heap.size, 0, none⟩) (all1.length - off1 + n) cap4)
          refine ⟨some ⟨w3.heap.size, 0, none⟩, cap4, rfl, hX, ?_, by have := HGE.out; rw [← HDL.out] at this; omega, by simp; omega, ?_⟩
          · exact Own.setOther (Own.setOther (Own.setOther (Own.mono h4 hB2) _ _ (fun g hg => by cases hg; simp; omega)) _ _ (fun g hg => by cases hg; simp; omega)) _ _ (fun g hg => by cases hg; simp; omega)
          · exact (((hb2.drew.trans (hb4.mono (show base ≤ w3.drew.heap.size from hB2))).setCell (by simpa using hB) _).setCell (by simpa using hB) _).setCell (by simpa using hB) _)
end
end Go.Proofs.YtdnigbbfiklaoaaDoor
