/- HMAC-SHA-256, HKDF's labels: over lists. -/
import Derived.Test.YtdnigbbfiklaoaaDoorShaSpec
namespace Go.Proofs.YtdnigbbfiklaoaaDoor
namespace Sha
open U
def keyOf (k : List UInt8) : List UInt8 := if k.length ≤ 64 then k else sha k
def padK (k : List UInt8) (c : UInt8) : List UInt8 := (k ++ List.replicate (64 - k.length) 0).map fun x => x8 x c
def hmac (k s : List UInt8) : List UInt8 := sha (padK (keyOf k) 92 ++ sha (padK (keyOf k) 54 ++ s))
theorem keyOf_short (k : List UInt8) (h : k.length ≤ 64) : keyOf k = k := if_pos h
theorem keyOf_long (k : List UInt8) (h : ¬ k.length ≤ 64) : keyOf k = sha k := if_neg h
theorem len_keyOf (k : List UInt8) : (keyOf k).length ≤ 64 := by
  unfold keyOf; split
  · assumption
  · rw [len_sha]; decide
theorem len_padK (k : List UInt8) (c : UInt8) (h : k.length ≤ 64) : (padK k c).length = 64 := by simp [padK]; omega
theorem len_hmac (k s : List UInt8) : (hmac k s).length = 32 := len_sha _
/-- A list turned element by element, up to k. -/
def mapTo (f : UInt8 → UInt8) (l : List UInt8) (k : Nat) : List UInt8 := (l.take k).map f ++ l.drop k
theorem mapTo_0 (f : UInt8 → UInt8) (l : List UInt8) : mapTo f l 0 = l := by simp [mapTo]
theorem mapTo_all (f : UInt8 → UInt8) (l : List UInt8) (k : Nat) (h : l.length ≤ k) : mapTo f l k = l.map f := by simp [mapTo, List.take_of_length_le h, List.drop_eq_nil_of_le h]
theorem len_mapTo (f : UInt8 → UInt8) (l : List UInt8) (k : Nat) : (mapTo f l k).length = l.length := by simp [mapTo]; omega
theorem get_mapTo (f : UInt8 → UInt8) (l : List UInt8) (k : Nat) (h : k < l.length) : (mapTo f l k).getD k 0 = l.getD k 0 := by
  simp only [mapTo, List.getD]
  rw [List.getElem?_append_right (by simp; omega)]
  simp
  congr 2
  omega
theorem set_mapTo (f : UInt8 → UInt8) (l : List UInt8) (k : Nat) (h : k < l.length) : (mapTo f l k).set k (f (l.getD k 0)) = mapTo f l (k + 1) := by
  simp only [mapTo, List.getD, List.getElem?_eq_getElem h, Option.getD_some]
  have e : l.drop k = l[k] :: l.drop (k + 1) := List.drop_eq_getElem_cons h
  have e2 : l.take (k + 1) = l.take k ++ [l[k]] := List.take_succ_eq_append_getElem h
  rw [e2, List.map_append, List.set_append_right _ _ (by simp; omega)]
  have e3 : k - ((l.take k).map f).length = 0 := by simp; omega
  rw [e3, e, List.set_cons_zero]
  simp only [List.map_cons, List.map_nil, List.append_assoc, List.cons_append, List.nil_append]
theorem padK_eq (k : List UInt8) (c : UInt8) : padK k c = (k ++ List.replicate (64 - k.length) 0).map (fun x => x8 x c) := rfl
theorem hmac_eq (k s : List UInt8) : hmac k s = sha (padK (keyOf k) 92 ++ sha (padK (keyOf k) 54 ++ s)) := rfl
/-- HKDF-Expand for at most one block. -/
def expand (key info : List UInt8) (n : Nat) : List UInt8 := (hmac key (info ++ [1])).take n
def info (name ctx : List UInt8) (n : Nat) : List UInt8 := 0 :: UInt8.ofNat n :: (6 + UInt8.ofNat name.length) :: 116 :: 108 :: 115 :: 49 :: 51 :: 32 :: (name ++ UInt8.ofNat ctx.length :: ctx)
def label (key name ctx : List UInt8) (n : Nat) : List UInt8 := expand key (info name ctx n) n
theorem len_expand (key i : List UInt8) (n : Nat) (h : n ≤ 32) : (expand key i n).length = n := by simp [expand, len_hmac]; omega
theorem len_label (key name ctx : List UInt8) (n : Nat) (h : n ≤ 32) : (label key name ctx n).length = n := len_expand _ _ _ h
theorem len_info (name ctx : List UInt8) (n : Nat) : (info name ctx n).length = 10 + name.length + ctx.length := by simp [info]; omega
theorem expand_eq (key info : List UInt8) (n : Nat) : expand key info n = (hmac key (info ++ [1])).take n := rfl
theorem info_eq (name ctx : List UInt8) (n : Nat) : info name ctx n = 0 :: UInt8.ofNat n :: (6 + UInt8.ofNat name.length) :: 116 :: 108 :: 115 :: 49 :: 51 :: 32 :: (name ++ UInt8.ofNat ctx.length :: ctx) := rfl
theorem label_eq (key name ctx : List UInt8) (n : Nat) : label key name ctx n = expand key (info name ctx n) n := rfl
def nKey : List UInt8 := [107, 101, 121]
def nIv : List UInt8 := [105, 118]
def nFin : List UInt8 := [102, 105, 110, 105, 115, 104, 101, 100]
def nUpd : List UInt8 := [116, 114, 97, 102, 102, 105, 99, 32, 117, 112, 100]
def proof (server : Bool) (t : List UInt8) : List UInt8 := List.replicate 64 32 ++ [84, 76, 83, 32, 49, 46, 51, 44, 32] ++ (if server then [115, 101, 114, 118, 101, 114] else [99, 108, 105, 101, 110, 116]) ++ [32, 67, 101, 114, 116, 105, 102, 105, 99, 97, 116, 101, 86, 101, 114, 105, 102, 121, 0] ++ t
attribute [irreducible] expand info label
attribute [irreducible] keyOf padK hmac mapTo
end Sha
end Go.Proofs.YtdnigbbfiklaoaaDoor
