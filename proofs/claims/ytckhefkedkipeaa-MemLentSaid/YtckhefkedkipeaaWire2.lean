/- The readers of package wire, as functions on lists of numbers. -/
import Derived.Test.YtckhefkedkipeaaWire
namespace Go.Proofs.Ytckhefkedkipeaa
open Go.RowKit

def outsideL (l : List Int) (i : Int) : Bool := decide (i < 0) || decide ((l.length : Int) < i)
theorem or64_range (a b : Int) : 0 ≤ bits .or .u64 a b ∧ bits .or .u64 a b < 18446744073709551616 := by
  have h : ∀ n : Nat, 0 ≤ IntKind.u64.wrap n ∧ IntKind.u64.wrap n < 18446744073709551616 := by
    intro n
    have e : IntKind.u64.wrap (n : Int) = (n : Int) % 18446744073709551616 := by simp [IntKind.wrap, IntKind.bits, IntKind.signed]
    omega
  exact h _

/-- Two numbers and a fault are told; nothing changes. -/
def Out3 (k : IntKind) (w : World) (r : Int × Int × Int) (e : Ending) (w' : World) : Prop :=
  e = .returned (.tuple #[.int k r.1, .int .i64 r.2.1, .int .i64 r.2.2]) ∧ w = w'

def acc7 (acc c : Int) (k : Nat) : Int := bits .or .u64 acc (IntKind.u64.wrap (IntKind.u64.wrap (bits .and .u8 c 127) * 2 ^ (7 * k)))
def rUint : List Int → Nat → Int → Int × Nat × Int
  | [], _, _ => (0, 0, 10)
  | c :: s, k, acc =>
    if k = 9 ∧ 1 < c then (0, 0, 13)
    else if c < 128 then (if c = 0 ∧ 0 < k then (0, 0, 11) else (acc7 acc c k, k + 1, 0))
    else rUint s (k + 1) (acc7 acc c k)
def finU (n : Int) (r : Int × Nat × Int) : Int × Int × Int := (r.1, if r.2.2 = 0 then n + r.2.1 else 0, r.2.2)
def readUintL (l : List Int) (i : Int) : Int × Int × Int := if outsideL l i then (0, 0, 1) else finU i (rUint (l.drop i.toNat) 0 0)

def rOrd : List Int → List Int → Nat → List Int × Int × Int
  | [], _, _ => ([], 0, 10)
  | c :: s, out, p =>
    if c = 0 then
      match s with
      | [] => ([], 0, 10)
      | d :: t => if d = 1 then (out, ((p + 2 : Nat) : Int), 0) else if d = 255 then rOrd t (out ++ [0]) (p + 2) else ([], 0, 11)
    else rOrd s (out ++ [c]) (p + 1)
def readOrderedL (l : List Int) (i : Int) : List Int × Int × Int := if outsideL l i then ([], 0, 1) else rOrd (l.drop i.toNat) [] i.toNat
theorem rOrd_nil (out : List Int) (p : Nat) : rOrd [] out p = ([], 0, 10) := by simp [rOrd]
theorem rOrd_put (c : Int) (s out : List Int) (p : Nat) (h : c ≠ 0) : rOrd (c :: s) out p = rOrd s (out ++ [c]) (p + 1) := by cases s <;> simp [rOrd, h]
theorem rOrd_torn (out : List Int) (p : Nat) : rOrd [0] out p = ([], 0, 10) := by simp [rOrd]
theorem rOrd_end (s out : List Int) (p : Nat) : rOrd (0 :: 1 :: s) out p = (out, ((p + 2 : Nat) : Int), 0) := by simp [rOrd]
theorem rOrd_zero (s out : List Int) (p : Nat) : rOrd (0 :: 255 :: s) out p = rOrd s (out ++ [0]) (p + 2) := by rw [rOrd]; simp
theorem rOrd_bad (d : Int) (s out : List Int) (p : Nat) (h1 : d ≠ 1) (h2 : d ≠ 255) : rOrd (0 :: d :: s) out p = ([], 0, 11) := by simp [rOrd, h1, h2]

/-- A number out of bytes that rise. -/
def shor (a c : Int) : Int := bits .or .i64 (wrap64 (a * 256)) (wrap64 c)
def rRis (s : List Int) (acc : Int) : Int := s.foldl shor acc
def readRisingL (l : List Int) (i : Int) : Int × Int × Int :=
  if outsideL l i then (0, 0, 1) else if (l.length : Int) - i < 8 then (0, 0, 10) else if 127 < gt l i.toNat then (0, 0, 13) else (rRis ((l.take (i.toNat + 8)).drop i.toNat) 0, i + 8, 0)

def readFallingL (l : List Int) (i : Int) : Int × Int × Int :=
  if (readRisingL l i).2.2 = 0 then (wrap64 (9223372036854775807 - (readRisingL l i).1), (readRisingL l i).2.1, 0) else (0, 0, (readRisingL l i).2.2)
end Go.Proofs.Ytckhefkedkipeaa
