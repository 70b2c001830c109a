/- Plain Lean: SHA-256 as numbers and lists, in one way of counting (the message schedule as a growing list), and the rolling window of sixteen words as another; that both come to the same. No program in sight. -/
namespace Sha2

abbrev W := BitVec 32

def S0 (a : W) : W := a.rotateRight 2 ^^^ a.rotateRight 13 ^^^ a.rotateRight 22
def S1 (e : W) : W := e.rotateRight 6 ^^^ e.rotateRight 11 ^^^ e.rotateRight 25
def s0 (x : W) : W := x.rotateRight 7 ^^^ x.rotateRight 18 ^^^ x >>> 3
def s1 (x : W) : W := x.rotateRight 17 ^^^ x.rotateRight 19 ^^^ x >>> 10
def ch (e f g : W) : W := (e &&& f) ||| (~~~e &&& g)
def maj (a b c : W) : W := (a &&& (b ||| c)) ||| (b &&& c)

/-- The round constants. -/
def ks : List Nat := [
    0x428a2f98, 0x71374491, 0xb5c0fbcf, 0xe9b5dba5, 0x3956c25b, 0x59f111f1, 0x923f82a4, 0xab1c5ed5,
    0xd807aa98, 0x12835b01, 0x243185be, 0x550c7dc3, 0x72be5d74, 0x80deb1fe, 0x9bdc06a7, 0xc19bf174,
    0xe49b69c1, 0xefbe4786, 0x0fc19dc6, 0x240ca1cc, 0x2de92c6f, 0x4a7484aa, 0x5cb0a9dc, 0x76f988da,
    0x983e5152, 0xa831c66d, 0xb00327c8, 0xbf597fc7, 0xc6e00bf3, 0xd5a79147, 0x06ca6351, 0x14292967,
    0x27b70a85, 0x2e1b2138, 0x4d2c6dfc, 0x53380d13, 0x650a7354, 0x766a0abb, 0x81c2c92e, 0x92722c85,
    0xa2bfe8a1, 0xa81a664b, 0xc24b8b70, 0xc76c51a3, 0xd192e819, 0xd6990624, 0xf40e3585, 0x106aa070,
    0x19a4c116, 0x1e376c08, 0x2748774c, 0x34b0bcb5, 0x391c0cb3, 0x4ed8aa4a, 0x5b9cca4f, 0x682e6ff3,
    0x748f82ee, 0x78a5636f, 0x84c87814, 0x8cc70208, 0x90befffa, 0xa4506ceb, 0xbef9a3f7, 0xc67178f2]
def kw (i : Nat) : W := BitVec.ofNat 32 (ks.getD i 0)

/-- Eight words. -/
structure St where
  (a b c d e f g h : W)
  deriving DecidableEq

def St.list (v : St) : List W := [v.a, v.b, v.c, v.d, v.e, v.f, v.g, v.h]
def St.of (l : List W) : St := ⟨l.getD 0 0, l.getD 1 0, l.getD 2 0, l.getD 3 0, l.getD 4 0, l.getD 5 0, l.getD 6 0, l.getD 7 0⟩
def tt (v : St) (k w : W) : W := v.h + S1 v.e + ch v.e v.f v.g + k + w
def uu (v : St) : W := S0 v.a + maj v.a v.b v.c
def rnd (v : St) (k w : W) : St := ⟨tt v k w + uu v, v.a, v.b, v.c, v.d + tt v k w, v.e, v.f, v.g⟩
def St.add (v h : St) : St := ⟨v.a + h.a, v.b + h.b, v.c + h.c, v.d + h.d, v.e + h.e, v.f + h.f, v.g + h.g, v.h + h.h⟩

/-- The words that a block's first n bytes lay. -/
def ld (s : List UInt8) : Nat → List W
  | 0 => List.replicate 16 0
  | n + 1 => (ld s n).set (n / 4) (((ld s n).getD (n / 4) 0) <<< 8 ||| BitVec.ofNat 32 (s.getD n 0).toNat)

/-- The next word. -/
def nxt (l : List W) : W :=
  let n := l.length
  l.getD (n - 16) 0 + s0 (l.getD (n - 15) 0) + l.getD (n - 7) 0 + s1 (l.getD (n - 2) 0)
def sch (l : List W) : Nat → List W
  | 0 => l
  | n + 1 => sch l n ++ [nxt (sch l n)]

/-- n rounds over the whole schedule. -/
def rnds (v : St) (l : List W) : Nat → St
  | 0 => v
  | n + 1 => rnd (rnds v l n) (kw n) (l.getD n 0)

def step (v : St) (s : List UInt8) : St := (rnds v (sch (ld s 64) 48) 64).add v

/-- The window: sixteen words, round and round. -/
def win (l : List W) (i : Nat) : List W :=
  if 16 ≤ i then
    l.set (i % 16) (l.getD (i % 16) 0 + (s0 (l.getD ((i + 1) % 16) 0) + l.getD ((i + 9) % 16) 0 + s1 (l.getD ((i + 14) % 16) 0)))
  else l
/-- The same rounds, over a window. -/
def wrun (v : St) (l : List W) : Nat → List W × St
  | 0 => (l, v)
  | n + 1 => let p := wrun v l n; (win p.1 n, rnd p.2 (kw n) ((win p.1 n).getD (n % 16) 0))

theorem ld_length (s : List UInt8) (n : Nat) : (ld s n).length = 16 := by
  induction n with
  | zero => simp [ld]
  | succ n ih => simp [ld, ih]

theorem sch_length (l : List W) (n : Nat) : (sch l n).length = l.length + n := by
  induction n with
  | zero => simp [sch]
  | succ n ih => simp [sch, ih]; omega

theorem getD_app_left (l m : List W) (i : Nat) (d : W) (h : i < l.length) : (l ++ m).getD i d = l.getD i d := by
  rw [List.getD_eq_getElem?_getD, List.getD_eq_getElem?_getD, List.getElem?_append_left h]
theorem getD_app_at (l : List W) (x d : W) (i : Nat) (h : i = l.length) : (l ++ [x]).getD i d = x := by
  subst h
  rw [List.getD_eq_getElem?_getD, List.getElem?_append_right (Nat.le_refl _)]
  simp
theorem getD_set_at (l : List W) (x d : W) (i : Nat) (h : i < l.length) : (l.set i x).getD i d = x := by
  rw [List.getD_eq_getElem?_getD, List.getElem?_set_self h, Option.getD_some]
theorem getD_set_other (l : List W) (x d : W) (i j : Nat) (h : i ≠ j) : (l.set i x).getD j d = l.getD j d := by
  rw [List.getD_eq_getElem?_getD, List.getElem?_set_ne h, ← List.getD_eq_getElem?_getD]

theorem sch_keeps (l : List W) (n m i : Nat) (h : i < l.length + n) : (sch l (n + m)).getD i 0 = (sch l n).getD i 0 := by
  induction m with
  | zero => rfl
  | succ m ih =>
    rw [← ih, ← Nat.add_assoc]
    simp only [sch]
    rw [getD_app_left]
    rw [sch_length]; omega

theorem sch_keeps' (l : List W) (n N i : Nat) (h : i < l.length + n) (hN : n ≤ N) : (sch l n).getD i 0 = (sch l N).getD i 0 := by
  obtain ⟨m, rfl⟩ : ∃ m, N = n + m := ⟨N - n, by omega⟩
  exact (sch_keeps l n m i h).symm

/-- The schedule's word number 16 + d. -/
theorem sch_word (l : List W) (hl : l.length = 16) (N t : Nat) (h1 : 16 ≤ t) (h2 : t < 16 + N) :
    (sch l N).getD t 0 = (sch l N).getD (t - 16) 0 + s0 ((sch l N).getD (t - 15) 0) + (sch l N).getD (t - 7) 0 + s1 ((sch l N).getD (t - 2) 0) := by
  obtain ⟨d, rfl⟩ : ∃ d, t = 16 + d := ⟨t - 16, by omega⟩
  have r : (sch l N).getD (16 + d) 0 = nxt (sch l d) := by
    rw [← sch_keeps' l (d + 1) N _ (by omega) (by omega)]
    simp only [sch]
    exact getD_app_at _ _ _ _ (by rw [sch_length, hl])
  rw [r]
  unfold nxt
  rw [sch_length, hl]
  simp only []
  rw [sch_keeps' l d N _ (by omega) (by omega), sch_keeps' l d N _ (by omega) (by omega), sch_keeps' l d N _ (by omega) (by omega), sch_keeps' l d N _ (by omega) (by omega)]

theorem win_length (l : List W) (i : Nat) : (win l i).length = l.length := by
  unfold win; split <;> simp

theorem wrun_length (v : St) (l : List W) (n : Nat) : (wrun v l n).1.length = l.length := by
  induction n with
  | zero => rfl
  | succ n ih => simp [wrun, win_length, ih]

/-- What the window holds behind n rounds: the sixteen last words. -/
theorem wrun_win (v : St) (l : List W) (hl : l.length = 16) (N n : Nat) (hn : n ≤ 16 + N) :
    ∀ t, t < max n 16 → max n 16 ≤ t + 16 → (wrun v l n).1.getD (t % 16) 0 = (sch l N).getD t 0 := by
  induction n with
  | zero =>
    intro t h1 h2
    have : t < 16 := by omega
    rw [Nat.mod_eq_of_lt this]
    have := sch_keeps' l 0 N t (by omega) (by omega)
    simpa only [sch, wrun] using this
  | succ n ih =>
    intro t h1 h2
    have ih := ih (by omega)
    simp only [wrun]
    have hlen := wrun_length v l n
    generalize (wrun v l n).1 = q at *
    unfold win
    by_cases h16 : 16 ≤ n
    · rw [if_pos h16]
      by_cases ht : t = n
      · subst ht
        rw [getD_set_at _ _ _ _ (by omega)]
        have e0 := ih (t - 16) (by omega) (by omega)
        have e1 := ih (t - 15) (by omega) (by omega)
        have e9 := ih (t - 7) (by omega) (by omega)
        have e14 := ih (t - 2) (by omega) (by omega)
        rw [show (t - 16) % 16 = t % 16 from by omega] at e0
        rw [show (t - 15) % 16 = (t + 1) % 16 from by omega] at e1
        rw [show (t - 7) % 16 = (t + 9) % 16 from by omega] at e9
        rw [show (t - 2) % 16 = (t + 14) % 16 from by omega] at e14
        rw [e0, e1, e9, e14, sch_word l hl N t (by omega) (by omega)]
        simp only [BitVec.add_assoc]
      · rw [getD_set_other _ _ _ _ _ (by omega)]
        exact ih t (by omega) (by omega)
    · rw [if_neg h16]
      exact ih t (by omega) (by omega)

theorem wrun_rnds (v : St) (l : List W) (hl : l.length = 16) (N n : Nat) (hn : n ≤ 16 + N) : (wrun v l n).2 = rnds v (sch l N) n := by
  induction n with
  | zero => rfl
  | succ n ih =>
    have h := wrun_win v l hl N (n + 1) hn n (by omega) (by omega)
    simp only [wrun] at h
    simp only [wrun, rnds]
    rw [h, ih (by omega)]

theorem step_wrun (v : St) (s : List UInt8) : (wrun v (ld s 64) 64).2.add v = step v s := by
  unfold step
  rw [wrun_rnds v _ (ld_length s 64) 48 64 (by omega)]

/-- Two rows of eight, the first n places added. -/
def addN (v h : List W) : Nat → List W
  | 0 => v
  | n + 1 => (addN v h n).set n ((addN v h n).getD n 0 + h.getD n 0)
theorem addN_length (v h : List W) (n : Nat) : (addN v h n).length = v.length := by
  induction n with
  | zero => rfl
  | succ n ih => simp [addN, ih]
theorem list8 (l : List W) (hl : l.length = 8) : ∃ a b c d e f g h, l = [a, b, c, d, e, f, g, h] := by
  match l, hl with
  | [a, b, c, d, e, f, g, h], _ => exact ⟨a, b, c, d, e, f, g, h, rfl⟩
theorem of_list (v : St) : St.of v.list = v := rfl
theorem list_of (l : List W) (hl : l.length = 8) : (St.of l).list = l := by
  obtain ⟨a, b, c, d, e, f, g, h, rfl⟩ := list8 l hl
  rfl
theorem addN_add (v : St) (h : List W) (hl : h.length = 8) : addN v.list h 8 = (v.add (St.of h)).list := by
  obtain ⟨a, b, c, d, e, f, g, h, rfl⟩ := list8 h hl
  rfl
theorem St.list_length (v : St) : v.list.length = 8 := rfl

/-- What is filled up behind n bytes. -/
def be8 (n : Nat) : List UInt8 := (List.range 8).map fun j => UInt8.ofNat (n / 256 ^ (7 - j))
def fill (n : Nat) : List UInt8 := 128 :: (List.replicate (63 - (n + 8) % 64) 0 ++ be8 (8 * n))

def iv : St := ⟨0x6a09e667, 0xbb67ae85, 0x3c6ef372, 0xa54ff53a, 0x510e527f, 0x9b05688c, 0x1f83d9ab, 0x5be0cd19⟩

/-- The blocks, one behind the other. -/
def blocks (v : St) (s : List UInt8) : Nat → St
  | 0 => v
  | n + 1 => blocks (step v (s.take 64)) (s.drop 64) n

def wbytes (x : W) : List UInt8 := (List.range 4).map fun j => UInt8.ofNat (x >>> (24 - 8 * j)).toNat
def St.bytes (v : St) : List UInt8 := v.list.flatMap wbytes

def padded (s : List UInt8) : List UInt8 := s ++ fill s.length
/-- The sum of a text. -/
def sum (s : List UInt8) : List UInt8 := (blocks iv (padded s) ((padded s).length / 64)).bytes

theorem bytes_at (v : St) : v.bytes = (List.range 32).map fun k => UInt8.ofNat ((v.list.getD (k / 4) 0) >>> (24 - 8 * (k % 4))).toNat := rfl
theorem fill_length (n : Nat) : (fill n).length = 72 - (n + 8) % 64 := by
  simp [fill, be8]; omega

theorem be8_length (v : Nat) : (be8 v).length = 8 := by simp [be8]
theorem be8_at (v k : Nat) (h : k < 8) : (be8 v)[7 - k]? = some (UInt8.ofNat (v / 256 ^ k)) := by
  simp only [be8, List.getElem?_map, List.getElem?_range (show 7 - k < 8 by omega), Option.map_some]
  rw [show 7 - (7 - k) = k by omega]
/-- The last k of the length's bytes behind zeros. -/
def filled (z v k : Nat) : List UInt8 := 128 :: (List.replicate (z + 8 - k) 0 ++ (be8 v).drop (8 - k))
theorem filled_length (z v k : Nat) (h : k ≤ 8) : (filled z v k).length = z + 9 := by
  simp [filled, be8_length]; omega
theorem filled_set (z v k : Nat) (h : k < 8) : (filled z v k).set (z + 9 - 1 - k) (UInt8.ofNat (v / 256 ^ k)) = filled z v (k + 1) := by
  unfold filled
  rw [show z + 9 - 1 - k = (z + 7 - k) + 1 by omega, List.set_cons_succ, show z + 8 - k = (z + 7 - k) + 1 by omega, List.replicate_succ']
  rw [List.append_assoc, List.set_append_right _ _ (by simp), List.length_replicate, show z + 7 - k - (z + 7 - k) = 0 by omega]
  rw [List.singleton_append, List.set_cons_zero, show z + 8 - (k + 1) = z + 7 - k by omega]
  have hb := be8_at v k h
  have hlt : 7 - k < (be8 v).length := by rw [be8_length]; omega
  have he : (be8 v)[7 - k] = UInt8.ofNat (v / 256 ^ k) := by
    rw [List.getElem?_eq_getElem hlt] at hb
    exact Option.some.inj hb
  rw [show 8 - (k + 1) = 7 - k by omega, List.drop_eq_getElem_cons hlt, he, show 7 - k + 1 = 8 - k by omega]
theorem filled_all (n : Nat) : filled (63 - (n + 8) % 64) (8 * n) 8 = fill n := by
  simp [filled, fill]
theorem filled_none (z v : Nat) : filled z v 0 = 128 :: List.replicate (z + 8) 0 := by
  simp only [filled, Nat.sub_zero]
  rw [List.drop_of_length_le (by rw [be8_length]; omega), List.append_nil]

theorem padded_mod (s : List UInt8) : (padded s).length % 64 = 0 := by
  simp [padded, fill_length]; omega

theorem bytes_length (v : St) : v.bytes.length = 32 := rfl
theorem sum_length (s : List UInt8) : (sum s).length = 32 := bytes_length _

end Sha2
