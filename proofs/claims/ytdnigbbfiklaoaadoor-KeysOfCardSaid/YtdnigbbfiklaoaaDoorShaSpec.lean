/- What a block of SHA-256 comes to, round by round, over lists. -/
import Derived.Test.YtdnigbbfiklaoaaDoorWords
import Derived.Laws.IdiomCopy
namespace Go.Proofs.YtdnigbbfiklaoaaDoor
namespace Sha
open U
def g (l : List UInt32) (i : Nat) : UInt32 := l.getD i 0
def gb (l : List UInt8) (i : Nat) : UInt8 := l.getD i 0
def rotr (x : UInt32) (n : Nat) : UInt32 := o32 (r32 x n) (l32 x (32 - n))
def sg0 (x : UInt32) : UInt32 := x32 (x32 (rotr x 7) (rotr x 18)) (r32 x 3)
def sg1 (x : UInt32) : UInt32 := x32 (x32 (rotr x 17) (rotr x 19)) (r32 x 10)
def S1 (x : UInt32) : UInt32 := x32 (x32 (rotr x 6) (rotr x 11)) (rotr x 25)
def S0 (x : UInt32) : UInt32 := x32 (x32 (rotr x 2) (rotr x 13)) (rotr x 22)
def kon : List UInt32 := [
  0x428a2f98, 0x71374491, 0xb5c0fbcf, 0xe9b5dba5, 0x3956c25b, 0x59f111f1, 0x923f82a4, 0xab1c5ed5,
  0xd807aa98, 0x12835b01, 0x243185be, 0x550c7dc3, 0x72be5d74, 0x80deb1fe, 0x9bdc06a7, 0xc19bf174,
  0xe49b69c1, 0xefbe4786, 0x0fc19dc6, 0x240ca1cc, 0x2de92c6f, 0x4a7484aa, 0x5cb0a9dc, 0x76f988da,
  0x983e5152, 0xa831c66d, 0xb00327c8, 0xbf597fc7, 0xc6e00bf3, 0xd5a79147, 0x06ca6351, 0x14292967,
  0x27b70a85, 0x2e1b2138, 0x4d2c6dfc, 0x53380d13, 0x650a7354, 0x766a0abb, 0x81c2c92e, 0x92722c85,
  0xa2bfe8a1, 0xa81a664b, 0xc24b8b70, 0xc76c51a3, 0xd192e819, 0xd6990624, 0xf40e3585, 0x106aa070,
  0x19a4c116, 0x1e376c08, 0x2748774c, 0x34b0bcb5, 0x391c0cb3, 0x4ed8aa4a, 0x5b9cca4f, 0x682e6ff3,
  0x748f82ee, 0x78a5636f, 0x84c87814, 0x8cc70208, 0x90befffa, 0xa4506ceb, 0xbef9a3f7, 0xc67178f2]
def first : List UInt32 := [0x6a09e667, 0xbb67ae85, 0x3c6ef372, 0xa54ff53a, 0x510e527f, 0x9b05688c, 0x1f83d9ab, 0x5be0cd19]
def loadStep (b : List UInt8) (l : List UInt32) (i : Nat) : List UInt32 := l.set (i / 4) (o32 (l32 (g l (i / 4)) 8) (c8_32 (gb b i)))
def loadTo (b : List UInt8) (k : Nat) : List UInt32 := (List.range k).foldl (loadStep b) (List.replicate 64 0)
def extStep (l : List UInt32) (i : Nat) : List UInt32 := l.set i (a32 (a32 (a32 (g l (i - 16)) (sg0 (g l (i - 15)))) (g l (i - 7))) (sg1 (g l (i - 2))))
def extTo (l : List UInt32) (k : Nat) : List UInt32 := (List.range' 16 (k - 16)).foldl extStep l
def uu (w x : List UInt32) (i : Nat) : UInt32 := a32 (a32 (a32 (a32 (g x 7) (S1 (g x 4))) (x32 (g x 6) (n32 (g x 4) (x32 (g x 5) (g x 6))))) (g kon i)) (g w i)
def vv (x : List UInt32) : UInt32 := a32 (S0 (g x 0)) (o32 (n32 (g x 0) (g x 1)) (n32 (g x 2) (o32 (g x 0) (g x 1))))
def rnd (w x : List UInt32) (i : Nat) : List UInt32 := [a32 (uu w x i) (vv x), g x 0, g x 1, g x 2, a32 (g x 3) (uu w x i), g x 4, g x 5, g x 6]
def rndTo (w h : List UInt32) (k : Nat) : List UInt32 := (List.range k).foldl (rnd w) h
def addStep (x l : List UInt32) (i : Nat) : List UInt32 := l.set i (a32 (g l i) (g x i))
def addTo (x h : List UInt32) (k : Nat) : List UInt32 := (List.range k).foldl (addStep x) h
def sched (b : List UInt8) : List UInt32 := extTo (loadTo b 64) 64
def blk (h : List UInt32) (b : List UInt8) : List UInt32 := addTo (rndTo (sched b) h 64) h 8

def chunk (b : List UInt8) (i : Nat) : List UInt8 := (b.drop (64 * i)).take 64
def runTo (b : List UInt8) (h : List UInt32) (k : Nat) : List UInt32 := (List.range k).foldl (fun h i => blk h (chunk b i)) h
def nz (n : Nat) : Nat := (119 - n % 64) % 64
def lenB (n k : Nat) : List UInt8 := (List.range k).map fun i => c64_8 (r64 (m64 8 (UInt64.ofNat n)) (56 - 8 * i))
def pad (l : List UInt8) : List UInt8 := l ++ [128] ++ List.replicate (nz l.length) 0 ++ lenB l.length 8
def outTo (h : List UInt32) (k : Nat) : List UInt8 := (List.range k).map fun i => c32_8 (r32 (g h (i / 4)) (24 - i % 4 * 8))
def sha (l : List UInt8) : List UInt8 := outTo (runTo (pad l) first ((pad l).length / 64)) 32
theorem lenB_succ (n k : Nat) : lenB n (k + 1) = lenB n k ++ [c64_8 (r64 (m64 8 (UInt64.ofNat n)) (56 - 8 * k))] := by
  rw [lenB, List.range_succ, List.map_append]; rfl
theorem outTo_succ (h : List UInt32) (k : Nat) : outTo h (k + 1) = outTo h k ++ [c32_8 (r32 (g h (k / 4)) (24 - k % 4 * 8))] := by
  rw [outTo, List.range_succ, List.map_append]; rfl
theorem lenB_byte (n s : Nat) (h : n ≤ 1000000) : ((c64_8 (r64 (m64 8 (UInt64.ofNat n)) s)).toNat : Int) = (8 * (n : Int)) / 2 ^ s % 256 := by
  rw [c64_8, UInt64.toNat_toUInt8, toNat_r64, m64, UInt64.toNat_mul, UInt64.toNat_ofNat']
  have e : (UInt64.toNat 8 * (n % 2 ^ 64)) % 2 ^ 64 = 8 * n := by
    show (8 * (n % 2 ^ 64)) % 2 ^ 64 = 8 * n
    omega
  rw [e]; rfl
theorem len_lenB (n k : Nat) : (lenB n k).length = k := by simp [lenB]
theorem len_outTo (h : List UInt32) (k : Nat) : (outTo h k).length = k := by simp [outTo]
theorem len_sha (l : List UInt8) : (sha l).length = 32 := len_outTo _ _
theorem chunk_eq (b : List UInt8) (i : Nat) : chunk b i = (b.drop (64 * i)).take (64 * i + 64 - 64 * i) := by
  rw [show 64 * i + 64 - 64 * i = 64 by omega]; rfl
theorem nz_lt (n : Nat) : nz n < 64 := Nat.mod_lt _ (by decide)
theorem nz_at (n k : Nat) (h : k < 64) : (n + 1 + k) % 64 = 56 ↔ k = nz n := by unfold nz; omega
theorem len_pad (l : List UInt8) : (pad l).length = l.length + 1 + nz l.length + 8 := by simp [pad, len_lenB]; omega
theorem pad_mod (l : List UInt8) : (pad l).length % 64 = 0 := by rw [len_pad]; unfold nz; omega
theorem runTo_succ (b : List UInt8) (h : List UInt32) (k : Nat) : runTo b h (k + 1) = blk (runTo b h k) (chunk b k) := by
  rw [runTo, List.range_succ, List.foldl_append]; rfl
theorem runTo_0 (b : List UInt8) (h : List UInt32) : runTo b h 0 = h := rfl
theorem lenB_0 (n : Nat) : lenB n 0 = [] := rfl
theorem outTo_0 (h : List UInt32) : outTo h 0 = [] := rfl
theorem sha_eq (l : List UInt8) : sha l = outTo (runTo (pad l) first ((pad l).length / 64)) 32 := rfl
theorem loadTo_succ (b : List UInt8) (k : Nat) : loadTo b (k + 1) = loadStep b (loadTo b k) k := by
  rw [loadTo, List.range_succ, List.foldl_append]; rfl
theorem extTo_succ (l : List UInt32) (k : Nat) (h : 16 ≤ k) : extTo l (k + 1) = extStep (extTo l k) k := by
  rw [extTo, show k + 1 - 16 = (k - 16) + 1 by omega, List.range'_concat, List.foldl_append, extTo]
  show extStep _ (16 + 1 * (k - 16)) = _
  rw [show 16 + 1 * (k - 16) = k by omega]
theorem rndTo_succ (w h : List UInt32) (k : Nat) : rndTo w h (k + 1) = rnd w (rndTo w h k) k := by
  rw [rndTo, List.range_succ, List.foldl_append]; rfl
theorem addTo_succ (x h : List UInt32) (k : Nat) : addTo x h (k + 1) = addStep x (addTo x h k) k := by
  rw [addTo, List.range_succ, List.foldl_append]; rfl
theorem extTo_16 (l : List UInt32) : extTo l 16 = l := rfl
theorem loadTo_0 (b : List UInt8) : loadTo b 0 = List.replicate 64 0 := rfl
theorem rndTo_0 (w h : List UInt32) : rndTo w h 0 = h := rfl
theorem addTo_0 (x h : List UInt32) : addTo x h 0 = h := rfl
theorem sched_eq (b : List UInt8) : sched b = extTo (loadTo b 64) 64 := rfl
theorem blk_eq (h : List UInt32) (b : List UInt8) : blk h b = addTo (rndTo (sched b) h 64) h 8 := rfl
theorem len_loadTo (b : List UInt8) : ∀ k, (loadTo b k).length = 64
  | 0 => by simp [loadTo]
  | k + 1 => by rw [loadTo_succ, loadStep, List.length_set, len_loadTo b k]
theorem len_ext (l : List UInt32) (k : Nat) : (extTo l k).length = l.length := by
  unfold extTo
  generalize List.range' 16 (k - 16) = r
  induction r generalizing l with
  | nil => rfl
  | cons i r ih => rw [List.foldl_cons, ih, extStep, List.length_set]
theorem len_rnd (w x : List UInt32) (i : Nat) : (rnd w x i).length = 8 := rfl
theorem len_rndTo (w h : List UInt32) (hh : h.length = 8) : ∀ k, (rndTo w h k).length = 8
  | 0 => hh
  | k + 1 => by rw [rndTo_succ]; rfl
theorem len_addTo (x h : List UInt32) : ∀ k, (addTo x h k).length = h.length
  | 0 => rfl
  | k + 1 => by rw [addTo_succ, addStep, List.length_set, len_addTo x h k]
theorem len_blk (h : List UInt32) (b : List UInt8) (hh : h.length = 8) : (blk h b).length = 8 := by rw [blk, len_addTo, hh]

theorem len_runTo (b : List UInt8) (h : List UInt32) (hh : h.length = 8) : ∀ k, (runTo b h k).length = 8
  | 0 => hh
  | k + 1 => by rw [runTo_succ, len_blk _ _ (len_runTo b h hh k)]
theorem g_get (l : List UInt32) (j : Nat) : g l j = (l[j]?).getD 0 := rfl
theorem gb_eq (l : List UInt8) (j : Nat) : gb l j = l.getD j 0 := rfl
def fst (k : Nat) : List UInt32 := first.take k ++ List.replicate (8 - k) 0
theorem fst_0 : fst 0 = List.replicate 8 0 := rfl
theorem fst_8 : fst 8 = first := rfl
theorem fst_set (k : Nat) (h : k < 8) : (fst k).set k (g first k) = fst (k + 1) := by
  have : ∀ k : Fin 8, (fst k).set k (g first k) = fst (k + 1) := by decide +kernel
  exact this ⟨k, h⟩
theorem len_fst (k : Nat) (h : k ≤ 8) : (fst k).length = 8 := by
  have : ∀ k : Fin 9, (fst k).length = 8 := by decide +kernel
  exact this ⟨k, by omega⟩

theorem set_fill {α : Type} (a : List α) (n : Nat) (z c : α) (h : 0 < n) : (a ++ List.replicate n z).set a.length c = a ++ [c] ++ List.replicate (n - 1) z := by
  obtain ⟨m, rfl⟩ : ∃ m, n = m + 1 := ⟨n - 1, by omega⟩
  simp [List.replicate_succ]
theorem len_first : first.length = 8 := rfl
/-- A list of words as cells. -/
def arr32 (l : List UInt32) : Array Value := (l.map fun u => Value.int .u32 (u.toNat : Int)).toArray
theorem size_arr32 (l : List UInt32) : (arr32 l).size = l.length := by simp [arr32]
theorem get_arr32 {l : List UInt32} {j : Nat} (h : j < l.length) : (arr32 l)[j]? = some (.int .u32 ((g l j).toNat : Int)) := by
  simp [arr32, g, List.getD, List.getElem?_eq_getElem h]
theorem set_arr32 (l : List UInt32) (i : Nat) (v : UInt32) : (arr32 l).setIfInBounds i (.int .u32 (v.toNat : Int)) = arr32 (l.set i v) := by
  simp [arr32, List.map_set]
theorem cell32 {w : World} {B : Nat} {l : List UInt32} {T : TypeId} {fr : Nat × Nat} (h : w.heap[B]? = some (.cells (arr32 l) T fr)) {j : Nat} (hj : j < l.length) :
    w.cell? ⟨B, j, none⟩ = some (.int .u32 ((g l j).toNat : Int)) := by
  rw [cell_of_row w B j _ T fr h]; exact get_arr32 hj
theorem free32 {w : World} {B : Nat} {c : Array Value} {T : TypeId} (h : w.heap[B]? = some (.cells c T (0, 0))) (j : Nat) : w.frozen? ⟨B, j, none⟩ = false :=
  frozen_of_row w B j _ T h
theorem set32 {w : World} {B : Nat} {l : List UInt32} {T : TypeId} (h : w.heap[B]? = some (.cells (arr32 l) T (0, 0))) (i : Nat) (v : UInt32) :
    (w.setCell ⟨B, i, none⟩ (.int .u32 (v.toNat : Int))).heap[B]? = some (.cells (arr32 (l.set i v)) T (0, 0)) := by
  rw [heap_setCell_same w B i _ T _ h, set_arr32]
def g64 (l : List UInt64) (i : Nat) : UInt64 := l.getD i 0
def rounds64 : List UInt64 := [4794697086780616226, 8158064640168781261, 13096744586834688815, 16840607885511220156, 4131703408338449720, 6480981068601479193, 10538285296894168987, 12329834152419229976, 15566598209576043074, 1334009975649890238, 2608012711638119052, 6128411473006802146, 8268148722764581231, 9286055187155687089, 11230858885718282805, 13951009754708518548, 16472876342353939154, 17275323862435702243, 1135362057144423861, 2597628984639134821, 3308224258029322869, 5365058923640841347, 6679025012923562964, 8573033837759648693, 10970295158949994411, 12119686244451234320, 12683024718118986047, 13788192230050041572, 14330467153632333762, 15395433587784984357, 489312712824947311, 1452737877330783856, 2861767655752347644, 3322285676063803686, 5560940570517711597, 5996557281743188959, 7280758554555802590, 8532644243296465576, 9350256976987008742, 10552545826968843579, 11727347734174303076, 12113106623233404929, 14000437183269869457, 14369950271660146224, 15101387698204529176, 15463397548674623760, 17586052441742319658, 1182934255886127544, 1847814050463011016, 2177327727835720531, 2830643537854262169, 3796741975233480872, 4115178125766777443, 5681478168544905931, 6601373596472566643, 7507060721942968483, 8399075790359081724, 8693463985226723168, 9568029438360202098, 10144078919501101548, 10430055236837252648, 11840083180663258601, 13761210420658862357, 14299343276471374635, 14566680578165727644, 15097957966210449927, 16922976911328602910, 17689382322260857208, 500013540394364858, 748580250866718886, 1242879168328830382, 1977374033974150939, 2944078676154940804, 3659926193048069267, 4368137639120453308, 4836135668995329356, 5532061633213252278, 6448918945643986474, 6902733635092675308, 7801388544844847127]
def first64 : List UInt64 := [7640891576956012808, 13503953896175478587, 4354685564936845355, 11912009170470909681, 5840696475078001361, 11170449401992604703, 2270897969802886507, 6620516959819538809]
def arr64 (l : List UInt64) : Array Value := (l.map fun u => Value.int .u64 (u.toNat : Int)).toArray
theorem size_arr64 (l : List UInt64) : (arr64 l).size = l.length := by simp [arr64]
theorem get_arr64 {l : List UInt64} {j : Nat} (h : j < l.length) : (arr64 l)[j]? = some (.int .u64 ((g64 l j).toNat : Int)) := by
  simp [arr64, g64, List.getD, List.getElem?_eq_getElem h]
theorem set_arr64 (l : List UInt64) (i : Nat) (v : UInt64) : (arr64 l).setIfInBounds i (.int .u64 (v.toNat : Int)) = arr64 (l.set i v) := by
  simp [arr64, List.map_set]
theorem cell64 {w : World} {B : Nat} {l : List UInt64} {T : TypeId} {fr : Nat × Nat} (h : w.heap[B]? = some (.cells (arr64 l) T fr)) {j : Nat} (hj : j < l.length) :
    w.cell? ⟨B, j, none⟩ = some (.int .u64 ((g64 l j).toNat : Int)) := by
  rw [cell_of_row w B j _ T fr h]; exact get_arr64 hj
theorem set64 {w : World} {B : Nat} {l : List UInt64} {T : TypeId} (h : w.heap[B]? = some (.cells (arr64 l) T (0, 0))) (i : Nat) (v : UInt64) :
    (w.setCell ⟨B, i, none⟩ (.int .u64 (v.toNat : Int))).heap[B]? = some (.cells (arr64 (l.set i v)) T (0, 0)) := by
  rw [heap_setCell_same w B i _ T _ h, set_arr64]
theorem one_arr32 (l : List UInt32) : (arr32 l).all (·.oneCell') = true := by
  rw [Array.all_eq_true_iff_forall_mem]; intro v hv; simp [arr32] at hv; obtain ⟨u, _, rfl⟩ := hv; rfl
theorem one_arr64 (l : List UInt64) : (arr64 l).all (·.oneCell') = true := by
  rw [Array.all_eq_true_iff_forall_mem]; intro v hv; simp [arr64] at hv; obtain ⟨u, _, rfl⟩ := hv; rfl
theorem kon_of (i : Nat) (h : i < 64) : c64_32 (r64 (g64 rounds64 i) 32) = g kon i := by
  have : ∀ i : Fin 64, c64_32 (r64 (g64 rounds64 i) 32) = g kon i := by decide +kernel
  exact this ⟨i, h⟩
theorem first_of (i : Nat) (h : i < 8) : c64_32 (r64 (g64 first64 i) 32) = g first i := by
  have : ∀ i : Fin 8, c64_32 (r64 (g64 first64 i) 32) = g first i := by decide +kernel
  exact this ⟨i, h⟩
theorem len_kon : kon.length = 64 := rfl
theorem len_first64 : first64.length = 8 := rfl
theorem len_rounds64 : rounds64.length = 80 := rfl
theorem len_sched (b : List UInt8) : (sched b).length = 64 := by rw [sched, len_ext, len_loadTo]
/-- A run of words laid into a list, from place o on. -/
def setL : List UInt32 → Nat → List UInt32 → List UInt32
  | l, _, [] => l
  | l, o, u :: us => setL (l.set o u) (o + 1) us
theorem setL_shift (x : List UInt32) (h : x.length = 8) : setL x 1 [g x 0, g x 1, g x 2, g x 3, g x 4, g x 5, g x 6] = [g x 0, g x 0, g x 1, g x 2, g x 3, g x 4, g x 5, g x 6] := by
  match x, h with
  | [_, _, _, _, _, _, _, _], _ => rfl
theorem take7 (x : List UInt32) (h : x.length = 8) : ∀ j u, [g x 0, g x 1, g x 2, g x 3, g x 4, g x 5, g x 6][j]? = some u → x[0 + j]? = some u := by
  match x, h with
  | [_, _, _, _, _, _, _, _], _ =>
    intro j u hj
    rw [Nat.zero_add]
    match j, hj with
    | 0, hj => exact hj
    | 1, hj => exact hj
    | 2, hj => exact hj
    | 3, hj => exact hj
    | 4, hj => exact hj
    | 5, hj => exact hj
    | 6, hj => exact hj
    | n + 7, hj => simp at hj
def shifted (x : List UInt32) : List UInt32 := [g x 0, g x 0, g x 1, g x 2, g x 3, g x 4, g x 5, g x 6]
theorem shift_eq (x : List UInt32) (h : x.length = 8) : setL x 1 [g x 0, g x 1, g x 2, g x 3, g x 4, g x 5, g x 6] = shifted x := setL_shift x h
theorem len_shifted (x : List UInt32) : (shifted x).length = 8 := rfl
theorem g_shifted_0 (x : List UInt32) : g (shifted x) 0 = g x 0 := rfl
theorem g_shifted_4 (x : List UInt32) : g (shifted x) 4 = g x 3 := rfl
theorem rnd_shifted (w x : List UInt32) (i : Nat) : ((shifted x).set 0 (a32 (uu w x i) (vv x))).set 4 (a32 (g x 3) (uu w x i)) = rnd w x i := rfl
theorem setCells32 (T : TypeId) (B : Nat) : ∀ (us : List UInt32) (o : Nat) (w : World) (l : List UInt32), w.heap[B]? = some (.cells (arr32 l) T (0, 0)) →
    (w.setCells B o (us.map fun u => Value.int .u32 (u.toNat : Int))).heap[B]? = some (.cells (arr32 (setL l o us)) T (0, 0))
  | [], _, _, _, h => h
  | u :: us, o, w, l, h => by
    rw [List.map_cons, World.setCells, setL]
    exact setCells32 T B us (o + 1) _ _ (set32 h o u)
attribute [irreducible] shifted setL fst runTo lenB outTo pad nz sha chunk first64 first kon rounds64 loadTo extTo rndTo addTo blk sched rotr sg0 sg1 S0 S1 uu vv rnd loadStep extStep addStep arr32 arr64 g gb g64
end Sha
end Go.Proofs.YtdnigbbfiklaoaaDoor
