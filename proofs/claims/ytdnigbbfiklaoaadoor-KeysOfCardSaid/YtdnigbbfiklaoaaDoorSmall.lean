/- The law's own guard: small. -/
import Derived.Test.YtdnigbbfiklaoaaDoorShaProg
namespace Go.Proofs.YtdnigbbfiklaoaaDoor
open Go.RowKit
set_option maxHeartbeats 1000000 in
theorem small_any (ss : List (List UInt8)) (g : Nat) (w : World) (hl : ss.length ≤ 100) (hc : ∀ j, j < ss.length → w.cell? ⟨g, j, none⟩ = some (.string ⟨(ss.getD j []).toArray⟩)) (k : Nat) (hk : k = ss.length) :
    Calls Tryd.prog 4 #[.slice (some ⟨g, 0, none⟩) k k] w fun e w' => (e = .returned (.bool true) ∨ e = .returned (.bool false)) ∧ w' = w := by
  subst hk
  have HC := Lib.hid hc; clear hc
  go_enter Tryd.func4, Tryd.ntmps4
  go_wp2_with fail
  go_loopw [3, 4] (fun n i wr => ∃ (z : Int) (j : Nat), j ≤ ss.length ∧ n = .int .i64 z ∧ i = .int .i64 j ∧ wr = w) (fun _ i _ => ((ss.length : Int) - intOf i).toNat)
  case atStart => exact ⟨0, 0, by omega, rfl, rfl, rfl⟩
  case round =>
    obtain ⟨z, j, hj, rfl, rfl, hwr⟩ := hrel
    subst hwr
    by_cases hlt : j < ss.length
    · have c1 := HC.out j hlt
      have q5 : (j : Int) < (ss.length : Int) := by omega
      obtain ⟨s, hs⟩ : ∃ s, s = ss.getD j [] := ⟨_, rfl⟩
      rw [← hs] at c1
      clear hs
      by_cases hz : z ≤ 2048
      · go_wp2_with fail
        go_roundw
        case rel => exact ⟨_, j + 1, by omega, rfl, by go_num, trivial⟩
        case measure => simp [intOf]; omega
      · go_wp2_with fail
        go_ret
        exact ⟨.inr rfl, rfl⟩
    · have hjl : j = ss.length := by omega
      subst hjl
      by_cases hz : z ≤ 2048
      · go_wp2_with fail
        go_ret
        exact ⟨.inl rfl, rfl⟩
      · go_wp2_with fail
        go_ret
        exact ⟨.inr rfl, rfl⟩
end Go.Proofs.YtdnigbbfiklaoaaDoor
