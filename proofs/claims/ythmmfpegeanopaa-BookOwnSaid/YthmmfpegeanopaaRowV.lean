/- Arguments of the laws, as values. -/
import Derived.Test.YthmmfpegeanopaaB1
import Derived.Test.YthmmfpegeanopaaC3
set_option linter.unusedVariables false
set_option linter.unusedSimpArgs false
namespace Go.Proofs.Ythmmfpegeanopaa
open Go.RowKit

/-- An integer of 64 bits. -/
def I64 (n : Int) : Prop := -9223372036854775808 ≤ n ∧ n ≤ 9223372036854775807
/-- A lot. -/
structure Lt where
  acc : ByteArray
  it : ByteArray
  q : Int
def lcell (x : Lt) : List Value := [.string x.acc, .string x.it, .int .i64 x.q]
def lcells (l : List Lt) : List Value := rows lcell l
theorem lcell_len (x : Lt) : (lcell x).length = 3 := rfl
/-- An op. -/
structure OpV where
  k : Int
  n : Int
  keep : Int
  Am : Option Addr
  cm : Nat
  ms : List Mv
  Ar : Option Addr
  cr : Nat
  rs : List Lt
def opcell (o : OpV) : List Value := [.int .u8 o.k, .int .i64 o.n, .int .i64 o.keep, .slice o.Am o.ms.length o.cm, .slice o.Ar o.rs.length o.cr]
theorem opcell_len (o : OpV) : (opcell o).length = 5 := rfl
structure OpOk (w : World) (B : Nat) (o : OpV) : Prop where
  kb : 0 ≤ o.k ∧ o.k ≤ 255
  nb : I64 o.n
  keepb : I64 o.keep
  mc : o.ms.length ≤ o.cm
  ml : o.ms.length * 56 ≤ 140737488351232
  mr : Row w B o.Am (mvcells o.ms)
  rc : o.rs.length ≤ o.cr
  rl : o.rs.length * 40 ≤ 140737488351232
  rr : Row w B o.Ar (lcells o.rs)
/-- An act of a disk. -/
structure ActV where
  k : Int
  n : Int
  A : Option Addr
  c : Nat
  bs : List UInt8
def actcell (o : ActV) : List Value := [.int .u8 o.k, .int .i64 o.n, .slice o.A o.bs.length o.c]
theorem actcell_len (o : ActV) : (actcell o).length = 3 := rfl
structure ActOk (w : World) (B : Nat) (o : ActV) : Prop where
  kb : 0 ≤ o.k ∧ o.k ≤ 255
  nb : I64 o.n
  bc : o.bs.length ≤ o.c
  bl : o.bs.length ≤ 140737488351232
  br : Row w B o.A (bcells o.bs)
/-- A clerk. -/
structure ClV where
  ago : Int
  Ar : Option Addr
  cr : Nat
  rs : List Lt
  Am : Option Addr
  cm : Nat
  ms : List Mv
def clcell (o : ClV) : List Value := [.int .u8 o.ago, .slice o.Ar o.rs.length o.cr, .slice o.Am o.ms.length o.cm]
theorem clcell_len (o : ClV) : (clcell o).length = 3 := rfl
structure ClOk (w : World) (B : Nat) (o : ClV) : Prop where
  kb : 0 ≤ o.ago ∧ o.ago ≤ 255
  mc : o.ms.length ≤ o.cm
  ml : o.ms.length * 56 ≤ 140737488351232
  mr : Row w B o.Am (mvcells o.ms)
  rc : o.rs.length ≤ o.cr
  rl : o.rs.length * 40 ≤ 140737488351232
  rr : Row w B o.Ar (lcells o.rs)
/-- A shape. -/
structure ShV where
  w : Int
  h : Int
  v : Int
  t : Bool
def shcell (o : ShV) : List Value := [.int .i64 o.w, .int .i64 o.h, .int .i64 o.v, .bool o.t]
theorem shcell_len (o : ShV) : (shcell o).length = 4 := rfl
end Go.Proofs.Ythmmfpegeanopaa
