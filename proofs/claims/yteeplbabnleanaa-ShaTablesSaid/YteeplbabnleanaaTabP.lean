/- The tables, made anew: plain functions, as the reference has them. -/
import Derived.Test.YteeplbabnleanaaShaR
set_option linter.unusedSectionVars false
set_option linter.unusedSimpArgs false
set_option linter.unusedVariables false
set_option maxRecDepth 100000
namespace Go.Vm
/-- One limb times a number, laid on from a place on. -/
def inn (x : Nat) : List Nat → List Nat → Nat → Nat → List Nat × Nat
  | [], o, _, c => (o, c)
  | y :: b, o, j, c => inn x b (o.set j ((x * y + gt o j + c) % 4294967296)) (j + 1) ((x * y + gt o j + c) / 4294967296)
def tim (b : List Nat) : List Nat → List Nat → Nat → List Nat
  | [], o, _ => o
  | x :: a, o, i => tim b a ((inn x b o i 0).1.set (i + b.length) (inn x b o i 0).2) (i + 1)
def timesN (a b : List Nat) : List Nat := tim b a (List.replicate (a.length + b.length) 0) 0
def aboveL (s : List Nat) (at' p : Nat) : Nat → Bool
  | 0 => false
  | i + 1 => if gt s i = (if i = at' then p else 0) then aboveL s at' p i else decide ((if i = at' then p else 0) < gt s i)
def sqN (x : List Nat) (cube : Bool) : List Nat := if cube = true then timesN (timesN (x.take 2) (x.take 2)) (x.take 2) else timesN (x.take 2) (x.take 2)
def aboveN (x : List Nat) (p : Nat) (cube : Bool) : Bool := aboveL (sqN x cube) (if cube = true then 3 else 2) p (sqN x cube).length
def bitOn (x : List Nat) (b : Nat) : List Nat := x.set (b / 32) (gt x (b / 32) ||| 2 ^ (b % 32))
def rootL (p : Nat) (cube : Bool) : Nat → List Nat → List Nat
  | 0, x => x
  | b + 1, x => rootL p cube b (if aboveN (bitOn x b) p cube = true then x else bitOn x b)
def rootN (p : Nat) (cube : Bool) : Nat := gt (rootL p cube 37 [0, 0, 0, 0]) 0
/-- The primes below a number. -/
def pl : Nat → List Nat
  | 0 => []
  | k + 1 => if k < 2 then [] else if (pl k).all (fun q => decide (k % q ≠ 0)) = true then pl k ++ [k] else pl k
theorem pl_len : (pl 312).length = 64 := by decide +kernel
theorem pl_len1 : (pl 311).length = 63 := by decide +kernel
theorem roots3 : (pl 312).map (fun p => UInt32.ofNat (rootN p true)) = kT := by decide +kernel
theorem roots2 : ((pl 312).take 8).map (fun p => UInt32.ofNat (rootN p false)) = h0.l := by decide +kernel
end Go.Vm
