/- The reference's HMAC. -/
import Derived.Test.YtdnigbbfiklaoaaDoorShaRefOf
import Derived.Test.YtdnigbbfiklaoaaDoorHmacSpec
import Derived.Deep.RegionHeld3
import Derived.Deep.DeepCutAuto
namespace Go.Proofs.YtdnigbbfiklaoaaDoor
open Go.RowKit
set_option maxHeartbeats 1000000 in
set_option maxRecDepth 100000 in
theorem rTag_any (k s : List UInt8) (w : World) (hk : k.length ≤ 100000) (hs : s.length ≤ 100000) :
    Calls Tryd.prog 21 #[.string ⟨k.toArray⟩, .string ⟨s.toArray⟩] w fun e w' => e = .returned (.string ⟨(Sha.hmac k s).toArray⟩) ∧ Below w.heap.size w w' := by
  obtain ⟨i, bt⟩ := btinfo
  go_enter Tryd.func21, Tryd.ntmps21
  go_upto_if 10 with fail
  go_cut [0] (fun s0 wx => s0 = .string ⟨(Sha.keyOf k).toArray⟩ ∧ Below w.heap.size w wx)
  case first =>
    by_cases hk64 : k.length ≤ 64
    · have hfin : Sha.keyOf k = k := Sha.keyOf_short k hk64
      have HF := Lib.hid hfin; clear hfin
      have hd : ¬ (64 < k.length) := by omega
      go_wp2_with fail
      go_meet
      exact ⟨by rw [HF.out], Below.refl _ _⟩
    · have hfin : Sha.keyOf k = Sha.sha k := Sha.keyOf_long k hk64
      have HF := Lib.hid hfin; clear hfin
      have hd : 64 < k.length := by omega
      go_wp2_with (go_at_call 32; refine (rOf_any _ _ (by omega)).mono ?_; rintro e w1 ⟨rfl, hb1⟩)
      go_meet
      exact ⟨by rw [HF.out], hb1⟩
  case rest =>
  obtain ⟨rfl, hbc⟩ := hcut
  have hK := Sha.len_keyOf k
  obtain ⟨K, hKe⟩ : ∃ K : List UInt8, K = Sha.keyOf k := ⟨_, rfl⟩
  rw [← hKe] at hK ⊢
  have HKE := Lib.hid hKe; clear hKe
  have hz : (64 : Int) - (K.length : Int) = ((64 - K.length : Nat) : Int) := by omega
  have HZ := Lib.hid hz; clear hz
  obtain ⟨L, hLe⟩ : ∃ L : List UInt8, L = K ++ List.replicate (64 - K.length) 0 := ⟨_, rfl⟩
  have hL : L.length = 64 := by rw [hLe]; simp; omega
  have HL := Lib.hid hL; clear hL
  have HLE := Lib.hid hLe; clear hLe
  have tok1 : True := trivial
  have tok2 : True := trivial
  have tok3 : True := trivial
  have tok4 : True := trivial
  have tok5 : True := trivial
  go_wp2_with (first
    | (refine wpList_mk bt rfl _ _ rfl (64 - K.length) .i64 .i64 _ rfl rfl HZ.out (by omega) ?_; intro w1 h1 hs1 hb1; have HS1 := Lib.hid hs1; clear hs1)
    | (have _t := tok1; refine wpList_bs bt rfl _ rfl wc.heap.size _ _ _ (List.replicate (64 - K.length) 0) rfl (by simp) h1 ?_; clear tok1 _t h1)
    | (have _t := tok2; refine wpList_sbl bt rfl _ rfl _ rfl L (by rw [HLE.out]; simp) (by rw [HL.out]; omega) ?_; rw [HL.out]; intro cap2 w2 h2 hs2 hb2; have HS2 := Lib.hid hs2; clear hs2; clear tok2 _t)
    | (have _t := tok3; refine wpList_bs bt rfl _ rfl w1.heap.size _ _ _ L rfl (by rw [HL.out]) h2 ?_; clear tok3 _t)
    | (have _t := tok4; refine wpList_sbl bt rfl _ rfl _ rfl L (by simp) (by rw [HL.out]; omega) ?_; rw [HL.out]; intro cap3 w3 h3 hs3 hb3; have HS3 := Lib.hid hs3; clear hs3; clear tok4 _t))
  have hk1 : w1.heap.size < w2.heap.size := by have := HS2.out; omega
  have hk2 : wc.heap.size < w1.heap.size := by have := HS1.out; omega
  have hbb : Below wc.heap.size wc w3 := (hb1.trans (hb2.mono (by omega))).trans (hb3.mono (by omega))
  have h54 : ∀ x : UInt8, bits .xor .u8 (x.toNat : Int) 54 = ((U.x8 x 54).toNat : Int) := fun x => U.b_x8 x 54
  have h92 : ∀ x : UInt8, bits .xor .u8 (x.toNat : Int) 92 = ((U.x8 x 92).toNat : Int) := fun x => U.b_x8 x 92
  go_loopw [7] (fun i wr => ∃ j : Nat, j ≤ 64 ∧ i = .int .i64 j ∧ OwnB wr wc.heap.size (some ⟨w1.heap.size, 0, none⟩) cap2 (Sha.mapTo (fun x => U.x8 x 54) L j) ∧ OwnB wr wc.heap.size (some ⟨w2.heap.size, 0, none⟩) cap3 (Sha.mapTo (fun x => U.x8 x 92) L j) ∧ Below wc.heap.size wc wr)
    (fun i _ => (64 - intOf i).toNat)
  case atStart =>
    refine ⟨0, by omega, rfl, ?_, ?_, hbb⟩
    · rw [Sha.mapTo_0]; exact (Own.below h2 hb3 (fun x hx => by cases hx; exact hk1)).mono (by omega)
    · rw [Sha.mapTo_0]; exact Own.mono h3 (by omega)
  case round =>
    clear h2 h3 hbb hb3
    obtain ⟨j, hj, rfl, ha, hb, hbb⟩ := hrel
    have la := Sha.len_mapTo (fun x => U.x8 x 54) L j
    have lb := Sha.len_mapTo (fun x => U.x8 x 92) L j
    rw [HL.out] at la lb
    by_cases hlt : j < 64
    · have ca := ha.cell (j := j) (by omega)
      have cb := hb.cell (j := j) (by omega)
      have fa := ha.free (j := j) (by omega)
      have fb := hb.free (j := j) (by omega)
      rw [Sha.get_mapTo _ _ _ (by rw [HL.out]; exact hlt), Nat.zero_add] at ca cb
      rw [Nat.zero_add] at fa fb
      have LA := Lib.hid la; clear la
      have LB := Lib.hid lb; clear lb
      have q5 : (j : Int) < 64 := by omega
      go_wp2_with fail
      go_roundw
      case rel =>
        refine ⟨j + 1, by omega, by go_num, ?_, ?_, (hbb.setCell (by simp; omega) _).setCell (by simp; omega) _⟩
        · rw [← Sha.set_mapTo _ _ _ (by rw [HL.out]; exact hlt)]
          have := ha.set j (U.x8 (L.getD j 0) 54) (by rw [LA.out]; exact hlt)
          rw [Nat.zero_add] at this
          exact Own.setOther this _ _ (fun x hx => by cases hx; simp; omega)
        · rw [← Sha.set_mapTo _ _ _ (by rw [HL.out]; exact hlt)]
          have := OwnB.set (Own.setOther hb ⟨w1.heap.size, j, none⟩ (.int .u8 ((U.x8 (L.getD j 0) 54).toNat : Int)) (fun x hx => by cases hx; simp; omega)) j (U.x8 (L.getD j 0) 92) (by rw [LB.out]; exact hlt)
          rw [Nat.zero_add] at this
          exact this
      case measure => simp [intOf]; omega
    · have hj64 : j = 64 := by omega
      subst hj64
      rw [show ((64 : Nat) : Int) = 64 from rfl]
      rw [Sha.mapTo_all _ _ _ (by rw [HL.out]; omega)] at ha hb
      have pa : L.map (fun x => U.x8 x 54) = Sha.padK K 54 := by rw [HLE.out, Sha.padK_eq]
      have pb : L.map (fun x => U.x8 x 92) = Sha.padK K 92 := by rw [HLE.out, Sha.padK_eq]
      rw [pa] at ha; rw [pb] at hb
      have la2 := Sha.len_padK K 54 hK
      have lb2 := Sha.len_padK K 92 hK
      have LA := Lib.hid la2; clear la2
      have LB := Lib.hid lb2; clear lb2
      clear pa pb la lb hlt
      obtain ⟨wo, rfl⟩ : ∃ wo : World, wo = wr := ⟨_, rfl⟩
      obtain ⟨_, _, e, _, _, hq1⟩ := ha.isAt (by rw [LA.out]; omega)
      cases e
      obtain ⟨_, _, e, _, _, hq2⟩ := hb.isAt (by rw [LB.out]; omega)
      cases e
      have e1 : ∀ W, Below wo.heap.size wo W → (convert 41 9 (.slice (some ⟨w1.heap.size, 0, none⟩) 64 cap2)).run Tryd.prog W = .ok (.string ⟨(Sha.padK K 54).toArray⟩) W := fun W hW =>
        run_bs bt wc.heap.size _ _ _ _ (by rw [LA.out]) W (Own.below ha hW (fun x hx => by cases hx; exact hq1))
      have e2 : ∀ W, Below wo.heap.size wo W → (convert 41 9 (.slice (some ⟨w2.heap.size, 0, none⟩) 64 cap3)).run Tryd.prog W = .ok (.string ⟨(Sha.padK K 92).toArray⟩) W := fun W hW =>
        run_bs bt wc.heap.size _ _ _ _ (by rw [LB.out]) W (Own.below hb hW (fun x hx => by cases hx; exact hq2))
      have q1 : ¬ (9223372036854775807 < (Sha.padK K 54).length + s.length) := by rw [LA.out]; omega
      have q2 : ∀ x : List UInt8, ¬ (9223372036854775807 < (Sha.padK K 92).length + (Sha.sha x).length) := fun x => by rw [LB.out, Sha.len_sha]; omega
      go_wp2_with fail
      go_region_held3 (fun W => Below wo.heap.size wo W) (first | exact (Below.refl _ _).drew | exact (Below.refl _ _).drew.trans hb9 | exact ((Below.refl _ _).drew.trans hb9).trans (hb10.mono (by have := hb9.size; exact this)))
        (first
          | (have _t := tok5; go_at_call 32; refine (rOf_any _ _ (by rw [List.length_append, LA.out]; omega)).mono ?_; rintro e w9 ⟨rfl, hb9⟩; clear tok5 _t)
          | (go_at_call 32; refine (rOf_any _ _ (by rw [List.length_append, LB.out, Sha.len_sha]; omega)).mono ?_; rintro e w10 ⟨rfl, hb10⟩))
      go_wp2_with fail
      go_ret
      exact ⟨by rw [Sha.hmac_eq, ← HKE.out]; rfl, hbc.trans (Below.mono (hbb.trans ((((Below.refl _ _).drew.trans hb9).trans (hb10.mono (by have := hb9.size; exact this))).mono hbb.size)) hbc.size)⟩
end Go.Proofs.YtdnigbbfiklaoaaDoor
