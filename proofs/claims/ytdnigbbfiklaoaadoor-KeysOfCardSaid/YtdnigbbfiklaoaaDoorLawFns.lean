/- What the law compares, told by one contract each: the program's and the reference's answers as the same plain functions. -/
import Derived.Test.YtdnigbbfiklaoaaDoorShake
import Derived.Test.YtdnigbbfiklaoaaDoorSmall
import Derived.Test.YtdnigbbfiklaoaaDoorKeysRef
namespace Go.Proofs.YtdnigbbfiklaoaaDoor
open Go.RowKit
namespace Sha
def trK (s : List UInt8) : List UInt8 := if s.length = 32 then label s nKey [] 32 else []
def trI (s : List UInt8) : List UInt8 := if s.length = 32 then label s nIv [] 12 else []
def oneE (s : List UInt8) : Int := if s.length = 32 then 0 else 2
def fin (s t : List UInt8) : List UInt8 := if s.length = 32 ∧ t.length = 32 then hmac (label s nFin [] 32) t else []
def twoE (s t : List UInt8) : Int := if s.length = 32 ∧ t.length = 32 then 0 else 2
def nxt (s : List UInt8) : List UInt8 := if s.length = 32 then label s nUpd [] 32 else []
def prf (b : Bool) (t : List UInt8) : List UInt8 := if t.length = 32 then proof b t else []
end Sha
theorem pTraffic_all (s : List UInt8) (w : World) (hkon : KonAt w) :
    Calls Tryd.prog 6 #[.string ⟨s.toArray⟩] w fun e w' => e = .returned (.tuple #[.agg #[.string ⟨(Sha.trK s).toArray⟩, .string ⟨(Sha.trI s).toArray⟩], .int .i64 (Sha.oneE s)]) ∧ Below w.heap.size w w' := by
  by_cases h : s.length = 32
  · rw [Sha.trK, Sha.trI, Sha.oneE, if_pos h, if_pos h, if_pos h]; exact pTraffic_any s w h hkon
  · rw [Sha.trK, Sha.trI, Sha.oneE, if_neg h, if_neg h, if_neg h]; exact pTraffic_no s w h
theorem rTraffic_all (s : List UInt8) (w : World) :
    Calls Tryd.prog 7 #[.string ⟨s.toArray⟩] w fun e w' => e = .returned (.tuple #[.agg #[.string ⟨(Sha.trK s).toArray⟩, .string ⟨(Sha.trI s).toArray⟩], .int .i64 (Sha.oneE s)]) ∧ Below w.heap.size w w' := by
  by_cases h : s.length = 32
  · rw [Sha.trK, Sha.trI, Sha.oneE, if_pos h, if_pos h, if_pos h]; exact rTraffic_any s w h
  · rw [Sha.trK, Sha.trI, Sha.oneE, if_neg h, if_neg h, if_neg h]; exact rTraffic_no s w h
theorem pFinished_all (s t : List UInt8) (w : World) (hkon : KonAt w) :
    Calls Tryd.prog 8 #[.string ⟨s.toArray⟩, .string ⟨t.toArray⟩] w fun e w' => e = .returned (.tuple #[.string ⟨(Sha.fin s t).toArray⟩, .int .i64 (Sha.twoE s t)]) ∧ Below w.heap.size w w' := by
  by_cases h : s.length = 32 ∧ t.length = 32
  · rw [Sha.fin, Sha.twoE, if_pos h, if_pos h]; exact pFinished_any s t w h.1 h.2 hkon
  · rw [Sha.fin, Sha.twoE, if_neg h, if_neg h]; exact pFinished_no s t w h
theorem rFinished_all (s t : List UInt8) (w : World) :
    Calls Tryd.prog 9 #[.string ⟨s.toArray⟩, .string ⟨t.toArray⟩] w fun e w' => e = .returned (.tuple #[.string ⟨(Sha.fin s t).toArray⟩, .int .i64 (Sha.twoE s t)]) ∧ Below w.heap.size w w' := by
  by_cases h : s.length = 32 ∧ t.length = 32
  · rw [Sha.fin, Sha.twoE, if_pos h, if_pos h]; exact rFinished_any s t w h.1 h.2
  · rw [Sha.fin, Sha.twoE, if_neg h, if_neg h]; exact (rFinished_no s t w h).mono fun e w' hw => ⟨hw.1, by rw [hw.2]; exact Below.refl _ _⟩
theorem pNext_all (s : List UInt8) (w : World) (hkon : KonAt w) :
    Calls Tryd.prog 10 #[.string ⟨s.toArray⟩] w fun e w' => e = .returned (.tuple #[.string ⟨(Sha.nxt s).toArray⟩, .int .i64 (Sha.oneE s)]) ∧ Below w.heap.size w w' := by
  by_cases h : s.length = 32
  · rw [Sha.nxt, Sha.oneE, if_pos h, if_pos h]; exact pNext_any s w h hkon
  · rw [Sha.nxt, Sha.oneE, if_neg h, if_neg h]; exact pNext_no s w h
theorem rNext_all (s : List UInt8) (w : World) :
    Calls Tryd.prog 11 #[.string ⟨s.toArray⟩] w fun e w' => e = .returned (.tuple #[.string ⟨(Sha.nxt s).toArray⟩, .int .i64 (Sha.oneE s)]) ∧ Below w.heap.size w w' := by
  by_cases h : s.length = 32
  · rw [Sha.nxt, Sha.oneE, if_pos h, if_pos h]; exact rNext_any s w h
  · rw [Sha.nxt, Sha.oneE, if_neg h, if_neg h]; exact (rNext_no s w h).mono fun e w' hw => ⟨hw.1, by rw [hw.2]; exact Below.refl _ _⟩
theorem pProof_all (b : Bool) (t : List UInt8) (w : World) :
    Calls Tryd.prog 12 #[.bool b, .string ⟨t.toArray⟩] w fun e w' => e = .returned (.tuple #[.string ⟨(Sha.prf b t).toArray⟩, .int .i64 (Sha.oneE t)]) ∧ Below w.heap.size w w' := by
  by_cases h : t.length = 32
  · rw [Sha.prf, Sha.oneE, if_pos h, if_pos h]; exact pProof_any b t w h
  · rw [Sha.prf, Sha.oneE, if_neg h, if_neg h]; exact pProof_no b t w h
theorem rProof_all (b : Bool) (t : List UInt8) (w : World) :
    Calls Tryd.prog 13 #[.bool b, .string ⟨t.toArray⟩] w fun e w' => e = .returned (.tuple #[.string ⟨(Sha.prf b t).toArray⟩, .int .i64 (Sha.oneE t)]) ∧ Below w.heap.size w w' := by
  by_cases h : t.length = 32
  · rw [Sha.prf, Sha.oneE, if_pos h, if_pos h]; exact (rProof_any b t w h).mono fun e w' hw => ⟨hw.1, by rw [hw.2]; exact Below.refl _ _⟩
  · rw [Sha.prf, Sha.oneE, if_neg h, if_neg h]; exact (rProof_no b t w h).mono fun e w' hw => ⟨hw.1, by rw [hw.2]; exact Below.refl _ _⟩
attribute [irreducible] Sha.trK Sha.trI Sha.oneE Sha.fin Sha.twoE Sha.nxt Sha.prf
end Go.Proofs.YtdnigbbfiklaoaaDoor
