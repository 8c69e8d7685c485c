/- The program's key schedule: its helpers. -/
import Derived.Test.YtdnigbbfiklaoaaDoorLabel
namespace Go.Proofs.YtdnigbbfiklaoaaDoor
open Go.RowKit
set_option maxHeartbeats 1000000 in
theorem noughts_any (w : World) : Calls Tryd.prog 25 #[] w fun e w' => e = .returned (.string ⟨(List.replicate 32 (0 : UInt8)).toArray⟩) ∧ Below w.heap.size w w' := by
  obtain ⟨i, bt⟩ := btinfo
  go_enter Tryd.func25, Tryd.ntmps25
  go_wp2_with (first
    | (refine wpList_mk bt rfl _ _ rfl 32 .i64 .i64 32 rfl rfl rfl (by omega) ?_; intro w3 h3 hs3 hb3)
    | (refine wpList_bs bt rfl _ rfl w.heap.size _ _ _ (List.replicate 32 0) rfl (by simp) h3 ?_))
  go_ret
  exact ⟨rfl, hb3⟩
def zeros : List UInt8 := List.replicate 32 0
theorem len_zeros : zeros.length = 32 := by simp [zeros]
def early : List UInt8 := Sha.hmac zeros zeros
theorem len_early : early.length = 32 := Sha.len_hmac _ _
set_option maxHeartbeats 1000000 in
theorem early_any (w : World) (hkon : KonAt w) : Calls Tryd.prog 15 #[] w fun e w' => e = .returned (.string ⟨early.toArray⟩) ∧ Below w.heap.size w w' := by
  have HK := Lib.hid hkon; clear hkon
  have hz : ∀ w : World, Calls Tryd.prog 25 #[] w fun e w' => e = .returned (.string ⟨zeros.toArray⟩) ∧ Below w.heap.size w w' := noughts_any
  go_enter Tryd.func15, Tryd.ntmps15
  go_wp2_with fail
  refine (hz _).mono ?_
  rintro e w1 ⟨rfl, hb1⟩
  go_wp2_with fail
  refine (hz _).mono ?_
  rintro e w2 ⟨rfl, hb2⟩
  have hb02 := hb1.trans (hb2.mono hb1.size)
  go_wp2_with fail
  refine (pExtract_any zeros zeros _ (by rw [len_zeros]; decide) (by rw [len_zeros]; decide) (HK.out.below hb02)).mono ?_
  rintro e w3 ⟨rfl, hb3⟩
  go_wp2_with fail
  go_ret
  exact ⟨rfl, hb02.trans (hb3.mono hb02.size)⟩
set_option maxHeartbeats 1000000 in
theorem of_any (s : List UInt8) (E : Nat) (w : World) : Calls Tryd.prog 17 #[.string ⟨s.toArray⟩, .pointer (some ⟨E, 0, none⟩)] w fun e w' =>
    e = .returned (.func (.func 26) #[] #[.pointer (some ⟨w.heap.size, 0, none⟩), .pointer (some ⟨w.heap.size + 1, 0, none⟩)]) ∧ w' = (w.alloc (.cells #[.string ⟨s.toArray⟩] 9)).alloc (.cells #[.pointer (some ⟨E, 0, none⟩)] 49) := by
  go_enter Tryd.func17, Tryd.ntmps17
  go_wp2
  go_ret
  exact ⟨by simp, rfl⟩
set_option maxHeartbeats 1000000 in
theorem of1_any (s name ctx : List UInt8) (n : Int) (sb eb E : Nat) (w : World) (hk : s.length ≤ 100000) (hn : name.length ≤ 200) (hc : ctx.length ≤ 200) (h1 : 1 ≤ n) (h2 : n ≤ 32) (hkon : KonAt w)
    (c1 : w.cell? ⟨sb, 0, none⟩ = some (.string ⟨s.toArray⟩)) (c2 : w.cell? ⟨eb, 0, none⟩ = some (.pointer (some ⟨E, 0, none⟩))) (c3 : w.cell? ⟨E, 0, none⟩ = some (.int .i64 0)) (f3 : w.frozen? ⟨E, 0, none⟩ = false) :
    Calls Tryd.prog 26 #[.string ⟨name.toArray⟩, .string ⟨ctx.toArray⟩, .int .i64 n, .pointer (some ⟨sb, 0, none⟩), .pointer (some ⟨eb, 0, none⟩)] w fun e w' =>
      e = .returned (.string ⟨(Sha.label s name ctx n.toNat).toArray⟩) ∧ ∃ w1, Below w.heap.size w w1 ∧ w' = w1.setCell ⟨E, 0, none⟩ (.int .i64 0) := by
  have l2 := block_lt_of_cell c2
  have l3 := block_lt_of_cell c3
  go_enter Tryd.func26, Tryd.ntmps26
  go_wp2_with fail
  refine (pLabel_any s name ctx n _ hk hn hc h1 h2 hkon).mono ?_
  rintro e w1 ⟨rfl, hb1⟩
  have d2 : w1.cell? ⟨eb, 0, none⟩ = some (.pointer (some ⟨E, 0, none⟩)) := (hb1.cell (p := ⟨eb, 0, none⟩) l2).trans c2
  have d3 : w1.cell? ⟨E, 0, none⟩ = some (.int .i64 0) := (hb1.cell (p := ⟨E, 0, none⟩) l3).trans c3
  have e3 : w1.frozen? ⟨E, 0, none⟩ = false := (World.frozen?_of_block (w := w) (hb1.block _ l3)).trans f3
  go_wp2_with fail
  go_ret
  exact ⟨rfl, w1, hb1, rfl⟩
set_option maxHeartbeats 1000000 in
theorem whole_any (ss : List (List UInt8)) (g : Nat) (w : World) (hl : ss.length ≤ 100) (hc : ∀ j, j < ss.length → w.cell? ⟨g, j, none⟩ = some (.string ⟨(ss.getD j []).toArray⟩)) (k : Nat) (hk : k = ss.length) :
    Calls Tryd.prog 16 #[.slice (some ⟨g, 0, none⟩) k k] w fun e w' => e = .returned (.bool (ss.all fun s => s.length == 32)) ∧ w' = w := by
  subst hk
  have HC := Lib.hid hc; clear hc
  go_enter Tryd.func16, Tryd.ntmps16
  go_wp2_with fail
  go_loopw [4, 7] (fun _ i wr => ∃ j : Nat, j ≤ ss.length ∧ i = .int .i64 j ∧ wr = w ∧ (ss.take j).all (fun s => s.length == 32) = true) (fun _ i _ => ((ss.length : Int) - intOf i).toNat)
  case atStart => exact ⟨0, by omega, rfl, rfl, rfl⟩
  case round =>
    obtain ⟨j, hj, rfl, hwr, ha⟩ := hrel
    subst hwr
    have HA := Lib.hid ha; clear ha
    by_cases hlt : j < ss.length
    · have c1 := HC.out j hlt
      have q5 : (j : Int) < (ss.length : Int) := by omega
      obtain ⟨s, hs⟩ : ∃ s, s = ss.getD j [] := ⟨_, rfl⟩
      rw [← hs] at c1
      have hse : ss[j] = s := by rw [hs]; simp [List.getD, hlt]
      have HSE := Lib.hid hse; clear hse hs
      by_cases h32 : s.length = 32
      · have d1 : ((s.length : Int) != 32) = false := by rw [bne_eq_false_iff_eq]; omega
        have H32 := Lib.hid h32; clear h32
        go_wp2_with fail
        go_roundw
        case rel =>
          refine ⟨j + 1, by omega, by go_num, trivial, ?_⟩
          rw [List.take_succ_eq_append_getElem hlt, List.all_append, HA.out, HSE.out]
          simp [H32.out]
        case measure => simp [intOf]; omega
      · have d1 : ((s.length : Int) != 32) = true := by rw [bne_iff_ne]; omega
        go_wp2_with fail
        go_ret
        refine ⟨?_, rfl⟩
        have : (ss.all fun s => s.length == 32) = false := by
          rw [List.all_eq_false]
          exact ⟨ss[j], List.getElem_mem hlt, by rw [HSE.out]; simpa using h32⟩
        rw [this]; rfl
    · have hjl : j = ss.length := by omega
      subst hjl
      go_wp2_with fail
      go_ret
      exact ⟨by have := HA.out; rw [List.take_length] at this; rw [this]; rfl, rfl⟩
end Go.Proofs.YtdnigbbfiklaoaaDoor
