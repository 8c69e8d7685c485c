/- The program's HKDF: Extract, Label. -/
import Derived.Test.YtdnigbbfiklaoaaDoorPieces
namespace Go.Proofs.YtdnigbbfiklaoaaDoor
open Go.RowKit
theorem own_of_row {w : World} {base n : Nat} {e : TypeId} {v : Value} {xs : List Value} (h : w.ownsRow base e 1 v n xs) : Own w base 1 v n xs := by
  obtain ⟨h1, ⟨rfl, rfl⟩ | ⟨g, cap, cur, rfl, hb, hg, hn, hm, hs, ht⟩⟩ := h
  · exact ⟨h1, .inl ⟨rfl, rfl⟩⟩
  · refine Own.laid (fr := (0, 0)) hg (.inr (Nat.le_refl _)) hb h1 hn hm (by omega) (fun j hj => ?_)
    rw [← ht, List.getElem?_take, if_pos (by rw [← h1]; exact hj)]
    simp
theorem row_lit (w : World) (l : List UInt8) (e : TypeId) (n : Nat) (hn : n = l.length) (hl : l.length ≤ 1000000) : (w.alloc (.cells (bts l).toArray e)).ownsRow w.heap.size e 1 (.slice (some ⟨w.heap.size, 0, none⟩) n n) n (bts l) := by
  subst hn
  refine ⟨by simp [len_bts], .inr ⟨w.heap.size, l.length, (bts l).toArray, rfl, Nat.le_refl _, heap_alloc_last w _, Nat.le_refl _, by simp only [maxLen]; omega, by simp [len_bts], ?_⟩⟩
  rw [Nat.mul_one, ← len_bts l, List.take_length]
set_option maxHeartbeats 1000000 in
theorem pExtract_any (k s : List UInt8) (w : World) (hk : k.length ≤ 100000) (hs : s.length ≤ 100000) (hkon : KonAt w) :
    Calls Tryd.prog 24 #[.string ⟨k.toArray⟩, .string ⟨s.toArray⟩] w fun e w' => e = .returned (.string ⟨(Sha.hmac k s).toArray⟩) ∧ Below w.heap.size w w' := by
  go_enter Tryd.func24, Tryd.ntmps24
  go_wp2_with fail
  refine (tag_any k s _ hk hs hkon).mono ?_
  rintro e w1 ⟨rfl, hb1⟩
  go_wp2_with fail
  go_ret
  exact ⟨rfl, hb1⟩
set_option maxHeartbeats 4000000 in
set_option maxRecDepth 100000 in
theorem pLabel_any (k name ctx : List UInt8) (n : Int) (w : World) (hk : k.length ≤ 100000) (hs : name.length ≤ 200) (hc : ctx.length ≤ 200) (h1 : 1 ≤ n) (h2 : n ≤ 32) (hkon : KonAt w) :
    Calls Tryd.prog 27 #[.string ⟨k.toArray⟩, .string ⟨name.toArray⟩, .string ⟨ctx.toArray⟩, .int .i64 n] w fun e w' => e = .returned (.tuple #[.string ⟨(Sha.label k name ctx n.toNat).toArray⟩, .int .i64 0]) ∧ Below w.heap.size w w' := by
  obtain ⟨i, bt⟩ := btinfo
  have hd1 : ¬ (249 < name.length) := by omega
  have hd2 : ¬ (255 < ctx.length) := by omega
  have e0 : n / 256 = 0 := by omega
  have c1 : #[Value.int .u8 0, .int .u8 n, .int .u8 ((name.length : Int) + 1 + 1 + 1 + 1 + 1 + 1)] = (bts [0, UInt8.ofNat n.toNat, UInt8.ofNat (6 + name.length)]).toArray := by
    simp [bts]; omega
  have c2 : #[Value.int .u8 (ctx.length : Int)] = (bts [UInt8.ofNat ctx.length]).toArray := by
    simp [bts]; omega
  have C1 := Lib.hid c1; clear c1
  have C2 := Lib.hid c2; clear c2
  have HK := Lib.hid hkon; clear hkon
  go_enter Tryd.func27, Tryd.ntmps27
  have hrow : (w.alloc (.cells #[Value.int .u8 0, .int .u8 n, .int .u8 ((name.length : Int) + 1 + 1 + 1 + 1 + 1 + 1)] 5)).ownsRow w.heap.size 5 1 (.slice (some ⟨w.heap.size, 0, none⟩) 3 3) 3 (bts [0, UInt8.ofNat n.toNat, UInt8.ofNat (6 + name.length)]) := by
    rw [C1.out]; exact row_lit w _ _ 3 rfl (by simp)
  have hss : (⟨(116 :: 108 :: 115 :: 49 :: 51 :: 32 :: name).toArray⟩ : ByteArray).size = name.length + 6 := by simp [ByteArray.size]
  go_wp2_with (first
    | (refine Lib.wpList_append_own_string _ rfl _ _ 41 9 rfl w.heap.size 5 i bt.ht bt.hs bt.hi bt.hz bt.h1 bt.hb (.slice (some ⟨w.heap.size, 0, none⟩) 3 3) 3 (bts [0, UInt8.ofNat n.toNat, UInt8.ofNat (6 + name.length)]) rfl hrow ⟨(116 :: 108 :: 115 :: 49 :: 51 :: 32 :: name).toArray⟩ rfl (by rw [hss]; simp only [maxLen]; omega) (by rw [hss]; omega) (by simp) ?_
       intro v' w1 h1' hg1 hv1
       obtain ⟨p', cap', rfl⟩ := ownsRow_shape h1'
       rw [hss] at h1'
       have ho : OwnB w1 w.heap.size p' cap' ([0, UInt8.ofNat n.toNat, UInt8.ofNat (6 + name.length)] ++ (116 :: 108 :: 115 :: 49 :: 51 :: 32 :: name)) := by
         have hq := own_of_row h1'
         unfold OwnB
         rw [bts_app]
         have e1 : ([0, UInt8.ofNat n.toNat, UInt8.ofNat (6 + name.length)] ++ (116 :: 108 :: 115 :: 49 :: 51 :: 32 :: name)).length = 3 + (name.length + 6) := by simp; omega
         rw [e1]
         exact hq)
    | (refine wpList_pushL bt rfl _ _ rfl w1 _ 5 rfl [UInt8.ofNat ctx.length] C2.out w.heap.size p' cap' _ 1 ([0, UInt8.ofNat n.toNat, UInt8.ofNat (6 + name.length)] ++ (116 :: 108 :: 115 :: 49 :: 51 :: 32 :: name)) rfl (by simp; omega) rfl ho w1.heap.size _ rfl rfl (by simp; omega) (by have := hg1.size; simp at this; omega) ?_
       intro p3 cap3 w3 h3 hg3)
    | (refine wpList_bs bt rfl _ rfl w.heap.size _ _ _ (([0, UInt8.ofNat n.toNat, UInt8.ofNat (6 + name.length)] ++ (116 :: 108 :: 115 :: 49 :: 51 :: 32 :: name)) ++ [UInt8.ofNat ctx.length]) rfl (by simp; omega) h3 ?_))
  have hb1 : Below w.heap.size w w1 := Below.grown ((Below.refl _ _).alloc (Nat.le_refl _) _) hg1 (by simp) (fun x hx => by cases hx; exact Nat.le_refl _)
  have hb3 : Below w.heap.size w w3 := Below.grown (hb1.alloc hb1.size _) hg3 (by have := hb1.size; simp; omega) (fun x hx => ho.base x hx)
  rw [← Sha.info_eq]
  refine (pExpand_any k (Sha.info name ctx n.toNat) n _ hk (by rw [Sha.len_info]; omega) h1 h2 (HK.out.below hb3)).mono ?_
  rintro e w4 ⟨rfl, hb4⟩
  go_wp2_with fail
  go_ret2
  exact ⟨by rw [Sha.label_eq]; rfl, hb3.trans (hb4.mono hb3.size)⟩
end Go.Proofs.YtdnigbbfiklaoaaDoor
