/- Acts made of raw numbers. -/
import Derived.Test.YtmcaghldcabnnaaDoorHlCfg
namespace Go.Hl
open Go.RowKit Go.Proofs Go.V
abbrev Act := Int × (Int × (Int × (Int × (Int × (List Int × ((Int × (Int × (Int × (Int × Int)))) × List UInt8))))))
abbrev Cfg := Int × (List (Int × Int) × Int)
/-- A client's call that may be. -/
structure CallOk (x : Int × (Int × (Int × (Int × Int)))) : Prop where
  k0 : 1 ≤ x.1
  k1 : x.1 ≤ 5
  n0 : 0 ≤ x.2.1
  n1 : x.2.1 ≤ 4
  n : x.1 = 1 → x.2.1 = 0
  l0 : 0 ≤ x.2.2.1
  l1 : x.2.2.1 ≤ 2
  l : x.1 ≠ 2 → x.2.2.1 = 0
  y0 : 0 ≤ x.2.2.2.1
  y1 : x.2.2.2.1 ≤ 3
  y : x.1 ≠ 2 → x.1 ≠ 3 → x.2.2.2.1 = 0
  v0 : 0 ≤ x.2.2.2.2
  v1 : x.2.2.2.2 ≤ 98
  v : x.1 ≠ 3 → x.2.2.2.2 = 0
/-- An act as its kind has it. -/
structure ActOk (c : Cfg) (x : Act) : Prop where
  k0 : 1 ≤ x.1
  k1 : x.1 ≤ 8
  s0 : 0 ≤ x.2.1
  s1 : x.2.1 < c.1
  t0 : 0 ≤ x.2.2.1
  t1 : x.2.2.1 < c.1
  l0 : 0 ≤ x.2.2.2.1
  l1 : x.2.2.2.1 < c.2.1.length
  p0 : 0 ≤ x.2.2.2.2.1
  p1 : x.2.2.2.2.1 ≤ 2
  kl : x.2.2.2.2.2.1.length ≤ c.2.1.length
  ke : ∀ n ∈ x.2.2.2.2.2.1, 0 ≤ n ∧ n < 40
  ln : x.2.2.2.2.2.2.2.length ≤ 60
  path : x.1 ≠ 2 → x.1 ≠ 3 → x.1 ≠ 4 → x.2.2.1 = 0 ∧ x.2.2.2.2.1 = 0
  site : x.1 = 5 → x.2.1 = 0
  lab : x.1 = 5 ∨ x.1 = 6 ∨ x.1 = 7 → x.2.2.2.1 = 0
  keep : x.1 ≠ 6 → x.2.2.2.2.2.1 = []
  call : x.1 ≠ 1 → x.2.2.2.2.2.2.1 = (0, 0, 0, 0, 0)
  ask : x.1 = 1 → CallOk x.2.2.2.2.2.2.1
  line : x.1 ≠ 8 → x.2.2.2.2.2.2.2 = []
end Go.Hl
