/- What a digest is: the plain functions. -/
import Derived.Test.YtkolbfjheleoaaaDoorFwK
namespace Go.Fw.Sha
open Go.Fw
def rotr (x : BitVec 32) (n : Nat) : BitVec 32 := x >>> n ||| x <<< (32 - n)
def kc : List Nat := [1116352408, 1899447441, 3049323471, 3921009573, 961987163, 1508970993, 2453635748, 2870763221, 3624381080, 310598401, 607225278, 1426881987, 1925078388, 2162078206, 2614888103, 3248222580, 3835390401, 4022224774, 264347078, 604807628, 770255983, 1249150122, 1555081692, 1996064986, 2554220882, 2821834349, 2952996808, 3210313671, 3336571891, 3584528711, 113926993, 338241895, 666307205, 773529912, 1294757372, 1396182291, 1695183700, 1986661051, 2177026350, 2456956037, 2730485921, 2820302411, 3259730800, 3345764771, 3516065817, 3600352804, 4094571909, 275423344, 430227734, 506948616, 659060556, 883997877, 958139571, 1322822218, 1537002063, 1747873779, 1955562222, 2024104815, 2227730452, 2361852424, 2428436474, 2756734187, 3204031479, 3329325298]
def K (t : Nat) : BitVec 32 := BitVec.ofNat 32 (kc.getD t 0)
def ic : List Nat := [1779033703, 3144134277, 1013904242, 2773480762, 1359893119, 2600822924, 528734635, 1541459225]
def init (t : Nat) : BitVec 32 := BitVec.ofNat 32 (ic.getD t 0)
/-- The schedule. -/
def W (m : Nat → BitVec 32) (t : Nat) : BitVec 32 :=
  if t < 16 then m t
  else (rotr (W m (t - 2)) 17 ^^^ rotr (W m (t - 2)) 19 ^^^ W m (t - 2) >>> 10) + W m (t - 7) + (rotr (W m (t - 15)) 7 ^^^ rotr (W m (t - 15)) 18 ^^^ W m (t - 15) >>> 3) + W m (t - 16)
termination_by t
def one (s : Nat → BitVec 32) (k w : BitVec 32) : BitVec 32 :=
  s 7 + (rotr (s 4) 6 ^^^ rotr (s 4) 11 ^^^ rotr (s 4) 25) + (s 4 &&& s 5 ^^^ ~~~ s 4 &&& s 6) + k + w
def two (s : Nat → BitVec 32) : BitVec 32 :=
  (rotr (s 0) 2 ^^^ rotr (s 0) 13 ^^^ rotr (s 0) 22) + (s 0 &&& s 1 ^^^ s 0 &&& s 2 ^^^ s 1 &&& s 2)
def step (s : Nat → BitVec 32) (k w : BitVec 32) : Nat → BitVec 32
  | 0 => one s k w + two s
  | 4 => s 3 + one s k w
  | i + 1 => s i
def rnd (w s : Nat → BitVec 32) : Nat → Nat → BitVec 32
  | 0 => s
  | t + 1 => step (rnd w s t) (K t) (w t)
def comp (s m : Nat → BitVec 32) : Nat → BitVec 32 := fun i => s i + rnd (W m) s 64 i
def word (f : Nat → UInt8) (t : Nat) : BitVec 32 := b32 (f (4 * t)) <<< 24 ||| b32 (f (4 * t + 1)) <<< 16 ||| b32 (f (4 * t + 2)) <<< 8 ||| b32 (f (4 * t + 3))
def nth (l : List UInt8) (i : Nat) : UInt8 := l.getD i 0
/-- The state behind n blocks. -/
def blocks (l : List UInt8) : Nat → Nat → BitVec 32
  | 0 => init
  | n + 1 => comp (blocks l n) (word fun j => nth l (64 * n + j))
def be8 (n : Nat) : List UInt8 := (List.range 8).map fun i => UInt8.ofNat (n / 2 ^ (56 - 8 * i))
def pad (l : List UInt8) : List UInt8 := l ++ [128] ++ List.replicate ((119 - l.length % 64) % 64) 0 ++ be8 (l.length * 8)
def out (s : Nat → BitVec 32) (i : Nat) : UInt8 := lo8 (s (i / 4) >>> (24 - 8 * (i % 4)))
def sum (l : List UInt8) : List UInt8 := (List.range 32).map (out (blocks (pad l) ((pad l).length / 64)))
theorem W_lt {m : Nat → BitVec 32} {t : Nat} (h : t < 16) : W m t = m t := by rw [W, if_pos h]
theorem W_ge {m : Nat → BitVec 32} {t : Nat} (h : 16 ≤ t) : W m t = (rotr (W m (t - 2)) 17 ^^^ rotr (W m (t - 2)) 19 ^^^ W m (t - 2) >>> 10) + W m (t - 7) + (rotr (W m (t - 15)) 7 ^^^ rotr (W m (t - 15)) 18 ^^^ W m (t - 15) >>> 3) + W m (t - 16) := by
  rw [W, if_neg (by omega)]
theorem W_congr {m m' : Nat → BitVec 32} (h : ∀ t, t < 16 → m t = m' t) (t : Nat) : W m t = W m' t := by
  induction t using Nat.strongRecOn with
  | _ t ih =>
    by_cases ht : t < 16
    · rw [W_lt ht, W_lt ht, h t ht]
    · rw [W_ge (m := m) (t := t) (by omega), W_ge (m := m') (t := t) (by omega), ih (t - 2) (by omega), ih (t - 7) (by omega), ih (t - 15) (by omega), ih (t - 16) (by omega)]
end Go.Fw.Sha
