/-
  PLAIN LEAN: SHA-256's words, schedule, rounds and compression over whole numbers, spelled as the model spells Go's operations on uint32.
-/
import Derived.WalkKit
namespace Go.Proofs.YtmilbmgbpoekmaaDoor
namespace Sha

def add32 (x y : Int) : Int := (x + y) % 4294967296
def rotr (x : Int) (n : Nat) : Int := bits .or .u32 (x / 2 ^ n) (x * 2 ^ (32 - n) % 4294967296)
def x3 (a b c : Int) : Int := bits .xor .u32 (bits .xor .u32 a b) c
def sig0 (y : Int) : Int := x3 (rotr y 7) (rotr y 18) (y / 8)
def sig1 (x : Int) : Int := x3 (rotr x 17) (rotr x 19) (x / 1024)
def Sig1 (e : Int) : Int := x3 (rotr e 6) (rotr e 11) (rotr e 25)
def Sig0 (a : Int) : Int := x3 (rotr a 2) (rotr a 13) (rotr a 22)
def ch (e f g : Int) : Int := bits .xor .u32 (bits .and .u32 e f) (bits .and .u32 (bits .xor .u32 4294967295 e) g)
def maj (a b c : Int) : Int := bits .xor .u32 (bits .xor .u32 (bits .and .u32 a b) (bits .and .u32 a c)) (bits .and .u32 b c)
def beWord (a b c d : Int) : Int := bits .or .u32 (bits .or .u32 (bits .or .u32 (a * 16777216) (b * 65536)) (c * 256)) d

def KL : List Int := [1116352408, 1899447441, 3049323471, 3921009573, 961987163, 1508970993, 2453635748, 2870763221, 3624381080, 310598401, 607225278, 1426881987, 1925078388, 2162078206, 2614888103, 3248222580, 3835390401, 4022224774, 264347078, 604807628, 770255983, 1249150122, 1555081692, 1996064986, 2554220882, 2821834349, 2952996808, 3210313671, 3336571891, 3584528711, 113926993, 338241895, 666307205, 773529912, 1294757372, 1396182291, 1695183700, 1986661051, 2177026350, 2456956037, 2730485921, 2820302411, 3259730800, 3345764771, 3516065817, 3600352804, 4094571909, 275423344, 430227734, 506948616, 659060556, 883997877, 958139571, 1322822218, 1537002063, 1747873779, 1955562222, 2024104815, 2227730452, 2361852424, 2428436474, 2756734187, 3204031479, 3329325298]

/-- A block's bytes by their places. -/
def word (b : Nat → Int) (t : Nat) : Int := beWord (b (4 * t)) (b (4 * t + 1)) (b (4 * t + 2)) (b (4 * t + 3))
/-- The next word of the schedule, 'm' words being there. -/
def nextOf (x2 x7 x15 x16 : Int) : Int := (sig1 x2 + x7 + sig0 x15 + x16) % 4294967296
def next (ws : List Int) (m : Nat) : Int := nextOf (ws.getD (m - 2) 0) (ws.getD (m - 7) 0) (ws.getD (m - 15) 0) (ws.getD (m - 16) 0)
def sched (b : Nat → Int) : Nat → List Int
  | 0 => (List.range 16).map (word b)
  | k + 1 => sched b k ++ [next (sched b k) (16 + k)]
theorem length_sched (b : Nat → Int) : ∀ k, (sched b k).length = 16 + k
  | 0 => by simp [sched]
  | k + 1 => by simp [sched, length_sched b k]; omega
/-- Word t of the schedule. -/
def W (b : Nat → Int) (t : Nat) : Int := (sched b 48).getD t 0
theorem sched_keep (b : Nat → Int) (t k : Nat) (h : t < 16 + k) : ∀ d, (sched b (k + d)).getD t 0 = (sched b k).getD t 0
  | 0 => rfl
  | d + 1 => by
    rw [← sched_keep b t k h d]
    show (sched b (k + d) ++ _).getD t 0 = _
    have := length_sched b (k + d)
    simp only [List.getD_eq_getElem?_getD]
    rw [List.getElem?_append_left (by omega)]
theorem W_eq (b : Nat → Int) (t k : Nat) (h : t < 16 + k) (hk : k ≤ 48) : W b t = (sched b k).getD t 0 := by
  have := sched_keep b t k h (48 - k)
  rw [show k + (48 - k) = 48 by omega] at this
  exact this
theorem W_lo (b : Nat → Int) (t : Nat) (h : t < 16) : W b t = word b t := by
  rw [W_eq b t 0 (by omega) (by omega)]
  simp [sched, h]
theorem W_hi (b : Nat → Int) (t : Nat) (h : 16 ≤ t) (h2 : t < 64) :
    W b t = nextOf (W b (t - 2)) (W b (t - 7)) (W b (t - 15)) (W b (t - 16)) := by
  obtain ⟨k, rfl⟩ : ∃ k, t = 16 + k := ⟨t - 16, by omega⟩
  rw [W_eq b (16 + k) (k + 1) (by omega) (by omega), W_eq b (16 + k - 2) k (by omega) (by omega), W_eq b (16 + k - 7) k (by omega) (by omega), W_eq b (16 + k - 15) k (by omega) (by omega), W_eq b (16 + k - 16) k (by omega) (by omega)]
  have := length_sched b k
  show (sched b k ++ _).getD _ 0 = _
  rw [List.getD_eq_getElem?_getD, List.getElem?_append_right (by omega)]
  simp [this, next]

structure St where
  a : Int
  b : Int
  c : Int
  d : Int
  e : Int
  f : Int
  g : Int
  h : Int
def St.get (s : St) : Nat → Int
  | 0 => s.a
  | 1 => s.b
  | 2 => s.c
  | 3 => s.d
  | 4 => s.e
  | 5 => s.f
  | 6 => s.g
  | _ => s.h
/-- Sums that are not yet brought below 2^32. -/
def one (s : St) (k w : Int) : Int := s.h + Sig1 s.e + ch s.e s.f s.g + k + w
def two (s : St) : Int := Sig0 s.a + maj s.a s.b s.c
def round (s : St) (k w : Int) : St := ⟨add32 (one s k w) (two s), s.a, s.b, s.c, add32 s.d (one s k w), s.e, s.f, s.g⟩
def rounds (b : Nat → Int) (s : St) : Nat → St
  | 0 => s
  | t + 1 => round (rounds b s t) (KL.getD t 0) (W b t)
def St.plus (s r : St) : St := ⟨add32 s.a r.a, add32 s.b r.b, add32 s.c r.c, add32 s.d r.d, add32 s.e r.e, add32 s.f r.f, add32 s.g r.g, add32 s.h r.h⟩
theorem St.get_plus (s r : St) (i : Nat) : (s.plus r).get i = add32 (s.get i) (r.get i) := by
  unfold St.get; split <;> rfl
def compress (s : St) (b : Nat → Int) : St := s.plus (rounds b s 64)
def init : St := ⟨1779033703, 3144134277, 1013904242, 2773480762, 1359893119, 2600822924, 528734635, 1541459225⟩

/-! ### Blocks of a message -/
def blk (m : List Int) (i : Nat) : Nat → Int := fun j => m.getD (i + j) 0
def absorb (s : St) (m : List Int) : Nat → St
  | 0 => s
  | n + 1 => compress (absorb s m n) (blk m (64 * n))
def finSt (s : St) (m : List Int) : St := absorb s m (m.length / 64)
def finBuf (m : List Int) : List Int := m.drop (64 * (m.length / 64))

theorem sched_congr {b b' : Nat → Int} (h : ∀ j, j < 64 → b j = b' j) : ∀ k, sched b k = sched b' k
  | 0 => by
    simp only [sched]
    refine List.map_congr_left (fun t ht => ?_)
    have := List.mem_range.1 ht
    simp only [word]
    rw [h _ (by omega), h _ (by omega), h _ (by omega), h _ (by omega)]
  | k + 1 => by simp only [sched, sched_congr h k]
theorem rounds_congr {b b' : Nat → Int} (h : ∀ j, j < 64 → b j = b' j) (s : St) : ∀ k, rounds b s k = rounds b' s k
  | 0 => rfl
  | k + 1 => by simp only [rounds, W, rounds_congr h s k, sched_congr h]
theorem compress_congr {b b' : Nat → Int} (h : ∀ j, j < 64 → b j = b' j) (s : St) : compress s b = compress s b' := by
  simp only [compress, rounds_congr h]

theorem getD_append_left (m m' : List Int) (j : Nat) (h : j < m.length) : (m ++ m').getD j 0 = m.getD j 0 := by
  simp only [List.getD_eq_getElem?_getD]
  rw [List.getElem?_append_left h]
theorem getD_drop (m : List Int) (k j : Nat) : (m.drop k).getD j 0 = m.getD (k + j) 0 := by
  simp only [List.getD_eq_getElem?_getD, List.getElem?_drop]
theorem absorb_append (s : St) (m m' : List Int) : ∀ n, 64 * n ≤ m.length → absorb s (m ++ m') n = absorb s m n
  | 0, _ => rfl
  | n + 1, h => by
    simp only [absorb]
    rw [absorb_append s m m' n (by omega)]
    exact compress_congr (fun j hj => getD_append_left _ _ _ (by omega)) _
theorem absorb_add (s : St) (m : List Int) (k : Nat) : ∀ n, absorb s m (k + n) = absorb (absorb s m k) (m.drop (64 * k)) n
  | 0 => rfl
  | n + 1 => by
    show compress (absorb s m (k + n)) _ = compress _ _
    rw [absorb_add s m k n]
    refine compress_congr (fun j _ => ?_) _
    simp only [blk, getD_drop]
    rw [show 64 * (k.add n) + j = 64 * k + (64 * n + j) by simp only [Nat.add_eq]; omega]
theorem finSt_append (s : St) (m1 m2 : List Int) : finSt s (m1 ++ m2) = finSt (finSt s m1) (finBuf m1 ++ m2) := by
  unfold finSt finBuf
  have hl : (m1 ++ m2).length / 64 = m1.length / 64 + (m1.drop (64 * (m1.length / 64)) ++ m2).length / 64 := by
    simp only [List.length_append, List.length_drop]; omega
  rw [hl, absorb_add, absorb_append s m1 m2 _ (by omega), List.drop_append_of_le_length (by omega)]
theorem finBuf_append (m1 m2 : List Int) : finBuf (m1 ++ m2) = finBuf (finBuf m1 ++ m2) := by
  unfold finBuf
  have hl : (m1 ++ m2).length / 64 = m1.length / 64 + (m1.drop (64 * (m1.length / 64)) ++ m2).length / 64 := by
    simp only [List.length_append, List.length_drop]; omega
  rw [hl, Nat.mul_add, ← List.drop_drop, List.drop_append_of_le_length (show 64 * (m1.length / 64) ≤ m1.length by omega)]
theorem finBuf_length (m : List Int) : (finBuf m).length = m.length % 64 := by
  unfold finBuf; rw [List.length_drop]; omega
theorem fin_short (s : St) (m : List Int) (h : m.length < 64) : finSt s m = s ∧ finBuf m = m := by
  unfold finSt finBuf
  rw [show m.length / 64 = 0 by omega]
  exact ⟨rfl, rfl⟩
theorem fin_full (s : St) (m : List Int) (h : m.length = 64) : finSt s m = compress s (blk m 0) ∧ finBuf m = [] := by
  unfold finSt finBuf
  rw [show m.length / 64 = 1 by omega]
  exact ⟨rfl, List.drop_eq_nil_of_le (by omega)⟩

/-- A word put together byte by byte. -/
def pw (b : Nat → Int) (t : Nat) : Nat → Int
  | 0 => 0
  | k + 1 => bits .or .u32 (pw b t k * 256 % 4294967296) (b (4 * t + k))
theorem or_plus8 (x y : Int) (h0 : 0 ≤ x) (h1 : x < 4294967296) (h2 : x % 256 = 0) (h3 : 0 ≤ y) (h4 : y < 256) : bits .or .u32 x y = x + y := by
  rw [u32_or x y h0 h1 h3 (by omega), nat_join8 _ _ (by omega) (by omega)]; omega
theorem or_plus16 (x y : Int) (h0 : 0 ≤ x) (h1 : x < 4294967296) (h2 : x % 65536 = 0) (h3 : 0 ≤ y) (h4 : y < 65536) : bits .or .u32 x y = x + y := by
  rw [u32_or x y h0 h1 h3 (by omega), nat_join16 _ _ (by omega) (by omega)]; omega
theorem or_plus24 (x y : Int) (h0 : 0 ≤ x) (h1 : x < 4294967296) (h2 : x % 16777216 = 0) (h3 : 0 ≤ y) (h4 : y < 16777216) : bits .or .u32 x y = x + y := by
  rw [u32_or x y h0 h1 h3 (by omega), nat_join24 _ _ (by omega) (by omega)]; omega
theorem beWord_eq (a b c d : Int) (ha : 0 ≤ a ∧ a < 256) (hb : 0 ≤ b ∧ b < 256) (hc : 0 ≤ c ∧ c < 256) (hd : 0 ≤ d ∧ d < 256) : beWord a b c d = a * 16777216 + b * 65536 + c * 256 + d := by
  unfold beWord
  rw [or_plus24 (a * 16777216) (b * 65536) (by omega) (by omega) (by omega) (by omega) (by omega), or_plus16 (a * 16777216 + b * 65536) (c * 256) (by omega) (by omega) (by omega) (by omega) (by omega), or_plus8 _ _ (by omega) (by omega) (by omega) (by omega) (by omega)]
theorem pw_word (b : Nat → Int) (hb : ∀ j, 0 ≤ b j ∧ b j < 256) (t : Nat) : pw b t 4 = word b t := by
  have h0 := hb (4 * t)
  have h1 := hb (4 * t + 1)
  have h2 := hb (4 * t + 2)
  have h3 := hb (4 * t + 3)
  unfold word
  rw [beWord_eq _ _ _ _ h0 h1 h2 h3]
  simp only [pw, Nat.add_zero]
  rw [or_plus8 (0 * 256 % 4294967296) (b (4 * t)) (by omega) (by omega) (by omega) h0.1 h0.2]
  rw [or_plus8 _ (b (4 * t + 1)) (by omega) (by omega) (by omega) h1.1 h1.2]
  rw [or_plus8 _ (b (4 * t + 2)) (by omega) (by omega) (by omega) h2.1 h2.2]
  rw [or_plus8 _ (b (4 * t + 3)) (by omega) (by omega) (by omega) h3.1 h3.2]
  omega

/-! ### The whole digest -/
def sizeBytes (n : Nat) : List Int := (List.range 8).map fun i => ((n : Int) * 8 / 2 ^ (56 - 8 * i)) % 256
def zcount (n : Nat) : Nat := (119 - n % 64) % 64
def pad (l : List Int) : List Int := l ++ (128 :: (List.replicate (zcount l.length) 0 ++ sizeBytes l.length))
def digByte (h : St) (i : Nat) : Int := (h.get (i / 4) / 2 ^ (24 - 8 * (i % 4))) % 256
def digest (h : St) : List Int := (List.range 32).map (digByte h)
def sum (l : List Int) : List Int := digest (finSt init (pad l))
theorem zcount_lt (n : Nat) : zcount n < 64 := by unfold zcount; omega
theorem zcount_at (n : Nat) : (n + 1 + zcount n) % 64 = 56 := by unfold zcount; omega
theorem zcount_min (n i : Nat) (h : i < zcount n) : (n + 1 + i) % 64 ≠ 56 := by unfold zcount at h; omega
theorem zcount_of (n i : Nat) (h : i < 64) (h2 : (n + 1 + i) % 64 = 56) : i = zcount n := by unfold zcount; omega
theorem length_sizeBytes (n : Nat) : (sizeBytes n).length = 8 := by simp [sizeBytes]
theorem length_pad (l : List Int) : (pad l).length = l.length + 1 + zcount l.length + 8 := by simp [pad, length_sizeBytes]; omega
theorem length_digest (h : St) : (digest h).length = 32 := by simp [digest]
theorem length_sum (l : List Int) : (sum l).length = 32 := length_digest _

theorem bits_or_comm (a b : Int) : bits .or .u32 a b = bits .or .u32 b a := by
  show IntKind.u32.wrap ((BitVec.ofInt 32 a ||| BitVec.ofInt 32 b).toNat : Int) = IntKind.u32.wrap ((BitVec.ofInt 32 b ||| BitVec.ofInt 32 a).toNat : Int)
  rw [BitVec.or_comm]
end Sha
end Go.Proofs.YtmilbmgbpoekmaaDoor
