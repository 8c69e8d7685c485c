/- The reference's HKDF and key schedule. -/
import Derived.Test.YtdnigbbfiklaoaaDoorHmacRef
namespace Go.Proofs.YtdnigbbfiklaoaaDoor
open Go.RowKit
theorem u8_of (n : Nat) : ((UInt8.ofNat n).toNat : Int) = (n : Int) % 256 := by rw [UInt8.toNat_ofNat']; rfl
set_option maxHeartbeats 1000000 in
set_option maxRecDepth 100000 in
theorem rExpand_any (k s : List UInt8) (n : Int) (w : World) (hk : k.length ≤ 100000) (hs : s.length ≤ 50000) (h1 : 1 ≤ n) (h2 : n ≤ 32) :
    Calls Tryd.prog 28 #[.string ⟨k.toArray⟩, .string ⟨s.toArray⟩, .int .i64 n] w fun e w' => e = .returned (.tuple #[.string ⟨(Sha.expand k s n.toNat).toArray⟩, .int .i64 0]) ∧ Below w.heap.size w w' := by
  obtain ⟨i, bt⟩ := btinfo
  have hd1 : ¬ (n < 0) := by omega
  have hd2 : ¬ (8160 < n) := by omega
  go_enter Tryd.func28, Tryd.ntmps28
  go_wp2_with fail
  go_loopw [8, 9, 10] (fun o t i wr => (o = .slice none 0 0 ∧ t = .string ⟨#[]⟩ ∧ i = .int .i64 1 ∧ wr = w) ∨
      (∃ p cap, o = .slice p 32 cap ∧ i = .int .i64 2 ∧ OwnB wr w.heap.size p cap (Sha.hmac k (s ++ [1])) ∧ Below w.heap.size w wr))
    (fun _ _ i _ => (2 - intOf i).toNat)
  case atStart => exact .inl ⟨rfl, rfl, rfl, rfl⟩
  case round =>
    rcases hrel with ⟨rfl, rfl, rfl, rfl⟩ | ⟨p, cap, rfl, rfl, ho, hb⟩
    · have d0 : 0 < n := by omega
      have tok1 : True := trivial
      go_wp2_with (first
        | (refine wpList_bs_lit bt rfl _ rfl _ _ _ rfl _ _ _ rfl rfl [1] rfl rfl rfl (by decide) ?_)
        | (go_at_call 21; refine (rTag_any _ (s ++ [1]) _ hk (by simp; omega)).mono ?_; rintro e w1 ⟨rfl, hb1⟩)
        | (have _t := tok1; refine wpList_sbl bt rfl _ rfl _ rfl (Sha.hmac k (s ++ [1])) (by simp) (by rw [Sha.len_hmac]; omega) ?_; rw [Sha.len_hmac]; intro cap2 w2 h2 hs2 hb2; have HS2 := Lib.hid hs2; clear hs2; clear tok1 _t)
        | (refine wpList_bytes_append bt rfl _ _ rfl w1.heap.size none 0 0 [] rfl rfl (OwnB.nil _ _) ⟨w1.heap.size, 0, none⟩ cap2 32 (Sha.hmac k (s ++ [1])) rfl (by rw [Sha.len_hmac]) (fun j hj => by rw [addr_add]; exact h2.cell hj) (by rw [Sha.len_hmac]; decide) (by have := HS2.out; omega) ?_; intro p3 cap3 w3 h3 hg3))
      have hb0 : wr.heap.size ≤ w1.heap.size := by have := hb1.size; simp at this; omega
      go_roundw
      case rel =>
        refine .inr ⟨p3, cap3, rfl, rfl, Own.mono h3 hb0, ?_⟩
        have hbb : Below wr.heap.size wr w2 := (((Below.refl _ _).alloc (Nat.le_refl _) _).trans (hb1.mono (by simp))).trans (hb2.mono hb0)
        exact hbb.grown hg3 hbb.size (fun _ h => by cases h)
      case measure => simp [intOf]
    · have d0 : ¬ (32 < n) := by omega
      obtain ⟨g, off, rfl, hbg, hcap, hgl⟩ := ho.isAt (by rw [Sha.len_hmac]; decide)
      rw [Sha.len_hmac] at hcap
      have hcut := OwnB.cut ho 0 n.toNat (by omega) (by rw [Sha.len_hmac]; omega)
      rw [List.drop_zero, Nat.sub_zero, ← Sha.expand_eq] at hcut
      have hn : (Sha.expand k s n.toNat).length = n.toNat := Sha.len_expand _ _ _ (by omega)
      have HN := Lib.hid hn; clear hn
      have q1 : n ≤ (cap : Int) := by omega
      have q2 : 0 ≤ n := by omega
      have q3 : ¬ (cap = 0) := by omega
      go_wp2_with (first
        | (refine wpList_bs bt rfl _ rfl w.heap.size _ _ _ (Sha.expand k s n.toNat) rfl (by rw [HN.out]) hcut ?_))
      go_ret2
      exact ⟨rfl, hb⟩
set_option maxHeartbeats 1000000 in
set_option maxRecDepth 100000 in
theorem rLabel_any (k name ctx : List UInt8) (n : Int) (w : World) (hk : k.length ≤ 100000) (hs : name.length ≤ 200) (hc : ctx.length ≤ 200) (h1 : 1 ≤ n) (h2 : n ≤ 32) :
    Calls Tryd.prog 18 #[.string ⟨k.toArray⟩, .string ⟨name.toArray⟩, .string ⟨ctx.toArray⟩, .int .i64 n] w fun e w' => e = .returned (.tuple #[.string ⟨(Sha.label k name ctx n.toNat).toArray⟩, .int .i64 0]) ∧ Below w.heap.size w w' := by
  obtain ⟨i, bt⟩ := btinfo
  have hd1 : ¬ (249 < name.length) := by omega
  have hd2 : ¬ (255 < ctx.length) := by omega
  have e0 : n / 256 = 0 := by omega
  have c1 : #[Value.int .u8 0, .int .u8 n, .int .u8 (6 + (name.length : Int))] = (bts [0, UInt8.ofNat n.toNat, UInt8.ofNat (6 + name.length)]).toArray := by
    simp [bts]; omega
  have c2 : #[Value.int .u8 (ctx.length : Int)] = (bts [UInt8.ofNat ctx.length]).toArray := by
    simp [bts]; omega
  have C1 := Lib.hid c1; clear c1
  have C2 := Lib.hid c2; clear c2
  go_enter Tryd.func18, Tryd.ntmps18
  go_wp2_with (first
    | (refine wpList_bs_lit bt rfl _ rfl _ _ _ rfl _ 3 _ rfl rfl [0, UInt8.ofNat n.toNat, UInt8.ofNat (6 + name.length)] C1.out rfl rfl (by simp) ?_)
    | (refine wpList_bs_lit bt rfl _ rfl _ _ _ rfl _ 1 _ rfl (by simp) [UInt8.ofNat ctx.length] C2.out rfl rfl (by simp) ?_)
    | (go_at_call 28; refine (rExpand_any _ _ n _ hk (by simp; omega) h1 h2).mono ?_; rintro e w1 ⟨rfl, hb1⟩))
  go_ret2
  exact ⟨by rw [Sha.label_eq, Sha.info_eq]; rfl, (((Below.refl _ _).alloc (Nat.le_refl _) _).alloc (by simp) _).trans (hb1.mono (by simp; omega))⟩
set_option maxHeartbeats 1000000 in
theorem rlabel_any (k name ctx : List UInt8) (w : World) (hk : k.length ≤ 100000) (hs : name.length ≤ 200) (hc : ctx.length ≤ 200) :
    Calls Tryd.prog 19 #[.string ⟨k.toArray⟩, .string ⟨name.toArray⟩, .string ⟨ctx.toArray⟩] w fun e w' => e = .returned (.string ⟨(Sha.label k name ctx 32).toArray⟩) ∧ Below w.heap.size w w' := by
  go_enter Tryd.func19, Tryd.ntmps19
  go_wp2_with (go_at_call 18; refine (rLabel_any _ _ _ 32 _ hk hs hc (by decide) (by decide)).mono ?_; rintro e w1 ⟨rfl, hb1⟩)
  go_ret
  exact ⟨rfl, hb1⟩
set_option maxHeartbeats 1000000 in
theorem rTraffic_no (s : List UInt8) (w : World) (h : ¬ s.length = 32) :
    Calls Tryd.prog 7 #[.string ⟨s.toArray⟩] w fun e w' => e = .returned (.tuple #[.agg #[.string ⟨#[]⟩, .string ⟨#[]⟩], .int .i64 2]) ∧ Below w.heap.size w w' := by
  have hd : ((s.length : Int) != 32) = true := by rw [bne_iff_ne]; omega
  go_enter Tryd.func7, Tryd.ntmps7
  go_wp2
  refine bodyPost_ret (v := .tuple #[.agg #[.string ⟨#[]⟩, .string ⟨#[]⟩], .int .i64 2]) (by simp [results, Tryd.results7, go_sem]) rfl ⟨rfl, (Below.refl _ _).alloc (Nat.le_refl _) _⟩
set_option maxHeartbeats 1000000 in
theorem rTraffic_any (s : List UInt8) (w : World) (h : s.length = 32) :
    Calls Tryd.prog 7 #[.string ⟨s.toArray⟩] w fun e w' => e = .returned (.tuple #[.agg #[.string ⟨(Sha.label s Sha.nKey [] 32).toArray⟩, .string ⟨(Sha.label s Sha.nIv [] 12).toArray⟩], .int .i64 0]) ∧ Below w.heap.size w w' := by
  have hd : ((s.length : Int) != 32) = false := by rw [bne_eq_false_iff_eq]; omega
  have HH := Lib.hid h; clear h
  go_enter Tryd.func7, Tryd.ntmps7
  go_wp2_with (first
    | (go_at_call 18; refine (rLabel_any s Sha.nIv [] 12 _ (by rw [HH.out]; decide) (by decide) (by decide) (by decide) (by decide)).mono ?_; rintro e w1 ⟨rfl, hb1⟩)
    | (go_at_call 19; refine (rlabel_any s Sha.nKey [] _ (by rw [HH.out]; decide) (by decide) (by decide)).mono ?_; rintro e w2 ⟨rfl, hb2⟩)
    | (refine wpList_store_row rfl 25 _ _ rfl w.heap.size #[.string ⟨(Sha.label s Sha.nKey [] 32).toArray⟩, .string ⟨(Sha.label s Sha.nIv [] 12).toArray⟩] rfl rfl 25 #[.string ⟨#[]⟩, .string ⟨#[]⟩]
        (by have h1 := hb1.size; rw [hb2.block _ (by simp at h1; omega), hb1.block _ (by simp)]; exact heap_alloc_last _ _) (by kernel_rfl) rfl (by simp [Value.oneCell']) ?_))
  have h1 := hb1.size
  have hg : w2.heap[w.heap.size]? = some (.cells #[.string ⟨#[]⟩, .string ⟨#[]⟩] 25 (0, 0)) := by
    rw [hb2.block _ (by simp at h1; omega), hb1.block _ (by simp)]; exact heap_alloc_last _ _
  refine bodyPost_ret (v := .tuple #[.agg #[.string ⟨(Sha.label s Sha.nKey [] 32).toArray⟩, .string ⟨(Sha.label s Sha.nIv [] 12).toArray⟩], .int .i64 0]) ?_ rfl ⟨rfl, ?_⟩
  · have := cell_setRow_same w2 w.heap.size 0 _ #[.string ⟨(Sha.label s Sha.nKey [] 32).toArray⟩, .string ⟨(Sha.label s Sha.nIv [] 12).toArray⟩] _ _ hg
    have := cell_setRow_same w2 w.heap.size 1 _ #[.string ⟨(Sha.label s Sha.nKey [] 32).toArray⟩, .string ⟨(Sha.label s Sha.nIv [] 12).toArray⟩] _ _ hg
    simp [results, Tryd.results7, go_sem, *]
  · exact below_setRow ((((Below.refl _ _).alloc (Nat.le_refl _) _).trans (hb1.mono (by simp))).trans (hb2.mono (by simp at h1; omega))) (Nat.le_refl _) _
set_option maxHeartbeats 1000000 in
theorem rFinished_no (s t : List UInt8) (w : World) (h : ¬ (s.length = 32 ∧ t.length = 32)) :
    Calls Tryd.prog 9 #[.string ⟨s.toArray⟩, .string ⟨t.toArray⟩] w fun e w' => e = .returned (.tuple #[.string ⟨#[]⟩, .int .i64 2]) ∧ w' = w := by
  by_cases h1 : s.length = 32
  · have h2 : ¬ t.length = 32 := fun h2 => h ⟨h1, h2⟩
    have hd1 : ((s.length : Int) != 32) = false := by rw [bne_eq_false_iff_eq]; omega
    have hd2 : ((t.length : Int) != 32) = true := by rw [bne_iff_ne]; omega
    clear h h1 h2
    go_enter Tryd.func9, Tryd.ntmps9
    go_wp2
    go_ret2
    exact ⟨rfl, rfl⟩
  · have hd1 : ((s.length : Int) != 32) = true := by rw [bne_iff_ne]; omega
    clear h h1
    go_enter Tryd.func9, Tryd.ntmps9
    go_wp2
    go_ret2
    exact ⟨rfl, rfl⟩
set_option maxHeartbeats 1000000 in
theorem rFinished_any (s t : List UInt8) (w : World) (h1 : s.length = 32) (h2 : t.length = 32) :
    Calls Tryd.prog 9 #[.string ⟨s.toArray⟩, .string ⟨t.toArray⟩] w fun e w' => e = .returned (.tuple #[.string ⟨(Sha.hmac (Sha.label s Sha.nFin [] 32) t).toArray⟩, .int .i64 0]) ∧ Below w.heap.size w w' := by
  have hd1 : ((s.length : Int) != 32) = false := by rw [bne_eq_false_iff_eq]; omega
  have hd2 : ((t.length : Int) != 32) = false := by rw [bne_eq_false_iff_eq]; omega
  have H1 := Lib.hid h1; clear h1
  have H2 := Lib.hid h2; clear h2
  go_enter Tryd.func9, Tryd.ntmps9
  go_wp2_with (first
    | (go_at_call 19; refine (rlabel_any s Sha.nFin [] _ (by rw [H1.out]; decide) (by decide) (by decide)).mono ?_; rintro e w1 ⟨rfl, hb1⟩)
    | (go_at_call 21; refine (rTag_any (Sha.label s Sha.nFin [] 32) t _ (by rw [Sha.len_label _ _ _ _ (by decide)]; decide) (by rw [H2.out]; decide)).mono ?_; rintro e w2 ⟨rfl, hb2⟩))
  go_ret2
  exact ⟨rfl, hb1.trans (hb2.mono hb1.size)⟩
set_option maxHeartbeats 1000000 in
theorem rNext_no (s : List UInt8) (w : World) (h : ¬ s.length = 32) :
    Calls Tryd.prog 11 #[.string ⟨s.toArray⟩] w fun e w' => e = .returned (.tuple #[.string ⟨#[]⟩, .int .i64 2]) ∧ w' = w := by
  have hd1 : ((s.length : Int) != 32) = true := by rw [bne_iff_ne]; omega
  clear h
  go_enter Tryd.func11, Tryd.ntmps11
  go_wp2
  go_ret2
  exact ⟨rfl, rfl⟩
set_option maxHeartbeats 1000000 in
theorem rNext_any (s : List UInt8) (w : World) (h : s.length = 32) :
    Calls Tryd.prog 11 #[.string ⟨s.toArray⟩] w fun e w' => e = .returned (.tuple #[.string ⟨(Sha.label s Sha.nUpd [] 32).toArray⟩, .int .i64 0]) ∧ Below w.heap.size w w' := by
  have hd1 : ((s.length : Int) != 32) = false := by rw [bne_eq_false_iff_eq]; omega
  have H1 := Lib.hid h; clear h
  go_enter Tryd.func11, Tryd.ntmps11
  go_wp2_with (go_at_call 19; refine (rlabel_any s Sha.nUpd [] _ (by rw [H1.out]; decide) (by decide) (by decide)).mono ?_; rintro e w1 ⟨rfl, hb1⟩)
  go_ret2
  exact ⟨rfl, hb1⟩
set_option maxHeartbeats 1000000 in
theorem rProof_no (b : Bool) (s : List UInt8) (w : World) (h : ¬ s.length = 32) :
    Calls Tryd.prog 13 #[.bool b, .string ⟨s.toArray⟩] w fun e w' => e = .returned (.tuple #[.string ⟨#[]⟩, .int .i64 2]) ∧ w' = w := by
  have hd1 : ((s.length : Int) != 32) = true := by rw [bne_iff_ne]; omega
  clear h
  go_enter Tryd.func13, Tryd.ntmps13
  go_wp2
  go_ret2
  exact ⟨rfl, rfl⟩
set_option maxHeartbeats 1000000 in
theorem rProof_any (b : Bool) (s : List UInt8) (w : World) (h : s.length = 32) :
    Calls Tryd.prog 13 #[.bool b, .string ⟨s.toArray⟩] w fun e w' => e = .returned (.tuple #[.string ⟨(Sha.proof b s).toArray⟩, .int .i64 0]) ∧ w' = w := by
  have hd1 : ((s.length : Int) != 32) = false := by rw [bne_eq_false_iff_eq]; omega
  have hle : s.length ≤ 100 := by omega
  have H1 := Lib.hid h; clear h
  go_enter Tryd.func13, Tryd.ntmps13
  go_wp2_with fail
  go_loop [6, 7] (fun v i => ∃ k : Nat, k ≤ 64 ∧ i = .int .i64 k ∧ v = .string ⟨Array.replicate k 32⟩) (fun _ i => (64 - intOf i).toNat)
  case atStart => exact ⟨0, by omega, rfl, rfl⟩
  case round =>
    obtain ⟨k, hk, rfl, rfl⟩ := hrel
    by_cases hlt : k < 64
    · have q5 : (k : Int) < 64 := by omega
      go_wp2
      go_round
      case rel => exact ⟨k + 1, by omega, by go_num, by simp [Array.replicate_succ]⟩
      case measure => simp [intOf]; omega
    · have hk64 : k = 64 := by omega
      subst hk64
      cases b
      · go_wp2
        go_ret2
        exact ⟨by simp [Sha.proof], rfl⟩
      · go_wp2
        go_ret2
        exact ⟨by simp [Sha.proof], rfl⟩
end Go.Proofs.YtdnigbbfiklaoaaDoor
