/- TlF: printed. What the functions of the program tell. -/
import Derived.Test.YtgkjblbmiooedaaSyY
namespace Go.Sx
structure Ar4_dI_u64 where
  e0 : Int
  e1 : Int
  e2 : Int
  e3 : Int

def Ar4_dI_u64.d (x : Ar4_dI_u64) : D := .agg [.v (.int .u64 x.e0), .v (.int .u64 x.e1), .v (.int .u64 x.e2), .v (.int .u64 x.e3)]
structure TNode where
  Kind : Int
  Set : Ar4_dI_u64
  Min : Int
  Max : Int

def TNode.d (x : TNode) : D := .agg [.v (.int .i64 x.Kind), .v (.int .u64 x.Set.e0), .v (.int .u64 x.Set.e1), .v (.int .u64 x.Set.e2), .v (.int .u64 x.Set.e3), .v (.int .i64 x.Min), .v (.int .i64 x.Max)]
def dL_TNode_d (x : List TNode) : D := .row 7 x.length (x.map TNode.d)
def dL_dI_i64 (x : List Int) : D := .row 1 x.length (x.map (dI .i64))
def dL_dL_TNode_d (x : List (List TNode)) : D := .row 1 x.length (x.map dL_TNode_d)
structure Trx_tree where
  Rx : (List TNode)

def Trx_tree.d (x : Trx_tree) : D := .agg [.row 7 x.Rx.length (x.Rx.map TNode.d)]
def dL_dB (x : List Bool) : D := .row 1 x.length (x.map dB)
def dF_TNode_d (Φz : Phi) (x : List TNode) : D := .frow Φz 26 7 x.length (x.map TNode.d)
def eqk_24 (x y : Ar4_dI_u64) : Bool := ((x.e0 == y.e0) && ((x.e1 == y.e1) && ((x.e2 == y.e2) && ((x.e3 == y.e3) && true))))
def dL_Ar4_dI_u64_d (x : List Ar4_dI_u64) : D := .row 4 x.length (x.map Ar4_dI_u64.d)
def law04_a  : Option ((List TNode)) :=
  some ([(⟨3, (⟨0, 8589934592, 0, 0⟩ : Ar4_dI_u64), 0, 0⟩ : TNode)] : (List TNode))
def rx_kinds  : Option (Unit) :=
  some ()
def rx_plain (a0 : TNode) : Option (Bool) :=
  some ((a0.Kind == a0.Kind) && (((a0.Set.e0 == 0) && ((a0.Set.e1 == 0) && ((a0.Set.e2 == 0) && ((a0.Set.e3 == 0) && true)))) && ((a0.Min == 0) && ((a0.Max == 0) && true))))
def math_bits_OnesCount64 (a0 : Int) : Option (Int) :=
  some (bAnd .i64 (bCv .i64 (IntKind.u64.wrap ((IntKind.u64.wrap ((IntKind.u64.wrap ((bAnd .u64 (IntKind.u64.wrap ((bShr .u64 (IntKind.u64.wrap ((bAnd .u64 (bShr .u64 (IntKind.u64.wrap ((bAnd .u64 (bShr .u64 a0 1) 6148914691236517205) + (bAnd .u64 a0 6148914691236517205))) 2) 3689348814741910323) + (bAnd .u64 (IntKind.u64.wrap ((bAnd .u64 (bShr .u64 a0 1) 6148914691236517205) + (bAnd .u64 a0 6148914691236517205))) 3689348814741910323))) 4) + (IntKind.u64.wrap ((bAnd .u64 (bShr .u64 (IntKind.u64.wrap ((bAnd .u64 (bShr .u64 a0 1) 6148914691236517205) + (bAnd .u64 a0 6148914691236517205))) 2) 3689348814741910323) + (bAnd .u64 (IntKind.u64.wrap ((bAnd .u64 (bShr .u64 a0 1) 6148914691236517205) + (bAnd .u64 a0 6148914691236517205))) 3689348814741910323))))) 1085102592571150095) + (bShr .u64 (bAnd .u64 (IntKind.u64.wrap ((bShr .u64 (IntKind.u64.wrap ((bAnd .u64 (bShr .u64 (IntKind.u64.wrap ((bAnd .u64 (bShr .u64 a0 1) 6148914691236517205) + (bAnd .u64 a0 6148914691236517205))) 2) 3689348814741910323) + (bAnd .u64 (IntKind.u64.wrap ((bAnd .u64 (bShr .u64 a0 1) 6148914691236517205) + (bAnd .u64 a0 6148914691236517205))) 3689348814741910323))) 4) + (IntKind.u64.wrap ((bAnd .u64 (bShr .u64 (IntKind.u64.wrap ((bAnd .u64 (bShr .u64 a0 1) 6148914691236517205) + (bAnd .u64 a0 6148914691236517205))) 2) 3689348814741910323) + (bAnd .u64 (IntKind.u64.wrap ((bAnd .u64 (bShr .u64 a0 1) 6148914691236517205) + (bAnd .u64 a0 6148914691236517205))) 3689348814741910323))))) 1085102592571150095) 8))) + (bShr .u64 (IntKind.u64.wrap ((bAnd .u64 (IntKind.u64.wrap ((bShr .u64 (IntKind.u64.wrap ((bAnd .u64 (bShr .u64 (IntKind.u64.wrap ((bAnd .u64 (bShr .u64 a0 1) 6148914691236517205) + (bAnd .u64 a0 6148914691236517205))) 2) 3689348814741910323) + (bAnd .u64 (IntKind.u64.wrap ((bAnd .u64 (bShr .u64 a0 1) 6148914691236517205) + (bAnd .u64 a0 6148914691236517205))) 3689348814741910323))) 4) + (IntKind.u64.wrap ((bAnd .u64 (bShr .u64 (IntKind.u64.wrap ((bAnd .u64 (bShr .u64 a0 1) 6148914691236517205) + (bAnd .u64 a0 6148914691236517205))) 2) 3689348814741910323) + (bAnd .u64 (IntKind.u64.wrap ((bAnd .u64 (bShr .u64 a0 1) 6148914691236517205) + (bAnd .u64 a0 6148914691236517205))) 3689348814741910323))))) 1085102592571150095) + (bShr .u64 (bAnd .u64 (IntKind.u64.wrap ((bShr .u64 (IntKind.u64.wrap ((bAnd .u64 (bShr .u64 (IntKind.u64.wrap ((bAnd .u64 (bShr .u64 a0 1) 6148914691236517205) + (bAnd .u64 a0 6148914691236517205))) 2) 3689348814741910323) + (bAnd .u64 (IntKind.u64.wrap ((bAnd .u64 (bShr .u64 a0 1) 6148914691236517205) + (bAnd .u64 a0 6148914691236517205))) 3689348814741910323))) 4) + (IntKind.u64.wrap ((bAnd .u64 (bShr .u64 (IntKind.u64.wrap ((bAnd .u64 (bShr .u64 a0 1) 6148914691236517205) + (bAnd .u64 a0 6148914691236517205))) 2) 3689348814741910323) + (bAnd .u64 (IntKind.u64.wrap ((bAnd .u64 (bShr .u64 a0 1) 6148914691236517205) + (bAnd .u64 a0 6148914691236517205))) 3689348814741910323))))) 1085102592571150095) 8))) 16))) + (bShr .u64 (IntKind.u64.wrap ((IntKind.u64.wrap ((bAnd .u64 (IntKind.u64.wrap ((bShr .u64 (IntKind.u64.wrap ((bAnd .u64 (bShr .u64 (IntKind.u64.wrap ((bAnd .u64 (bShr .u64 a0 1) 6148914691236517205) + (bAnd .u64 a0 6148914691236517205))) 2) 3689348814741910323) + (bAnd .u64 (IntKind.u64.wrap ((bAnd .u64 (bShr .u64 a0 1) 6148914691236517205) + (bAnd .u64 a0 6148914691236517205))) 3689348814741910323))) 4) + (IntKind.u64.wrap ((bAnd .u64 (bShr .u64 (IntKind.u64.wrap ((bAnd .u64 (bShr .u64 a0 1) 6148914691236517205) + (bAnd .u64 a0 6148914691236517205))) 2) 3689348814741910323) + (bAnd .u64 (IntKind.u64.wrap ((bAnd .u64 (bShr .u64 a0 1) 6148914691236517205) + (bAnd .u64 a0 6148914691236517205))) 3689348814741910323))))) 1085102592571150095) + (bShr .u64 (bAnd .u64 (IntKind.u64.wrap ((bShr .u64 (IntKind.u64.wrap ((bAnd .u64 (bShr .u64 (IntKind.u64.wrap ((bAnd .u64 (bShr .u64 a0 1) 6148914691236517205) + (bAnd .u64 a0 6148914691236517205))) 2) 3689348814741910323) + (bAnd .u64 (IntKind.u64.wrap ((bAnd .u64 (bShr .u64 a0 1) 6148914691236517205) + (bAnd .u64 a0 6148914691236517205))) 3689348814741910323))) 4) + (IntKind.u64.wrap ((bAnd .u64 (bShr .u64 (IntKind.u64.wrap ((bAnd .u64 (bShr .u64 a0 1) 6148914691236517205) + (bAnd .u64 a0 6148914691236517205))) 2) 3689348814741910323) + (bAnd .u64 (IntKind.u64.wrap ((bAnd .u64 (bShr .u64 a0 1) 6148914691236517205) + (bAnd .u64 a0 6148914691236517205))) 3689348814741910323))))) 1085102592571150095) 8))) + (bShr .u64 (IntKind.u64.wrap ((bAnd .u64 (IntKind.u64.wrap ((bShr .u64 (IntKind.u64.wrap ((bAnd .u64 (bShr .u64 (IntKind.u64.wrap ((bAnd .u64 (bShr .u64 a0 1) 6148914691236517205) + (bAnd .u64 a0 6148914691236517205))) 2) 3689348814741910323) + (bAnd .u64 (IntKind.u64.wrap ((bAnd .u64 (bShr .u64 a0 1) 6148914691236517205) + (bAnd .u64 a0 6148914691236517205))) 3689348814741910323))) 4) + (IntKind.u64.wrap ((bAnd .u64 (bShr .u64 (IntKind.u64.wrap ((bAnd .u64 (bShr .u64 a0 1) 6148914691236517205) + (bAnd .u64 a0 6148914691236517205))) 2) 3689348814741910323) + (bAnd .u64 (IntKind.u64.wrap ((bAnd .u64 (bShr .u64 a0 1) 6148914691236517205) + (bAnd .u64 a0 6148914691236517205))) 3689348814741910323))))) 1085102592571150095) + (bShr .u64 (bAnd .u64 (IntKind.u64.wrap ((bShr .u64 (IntKind.u64.wrap ((bAnd .u64 (bShr .u64 (IntKind.u64.wrap ((bAnd .u64 (bShr .u64 a0 1) 6148914691236517205) + (bAnd .u64 a0 6148914691236517205))) 2) 3689348814741910323) + (bAnd .u64 (IntKind.u64.wrap ((bAnd .u64 (bShr .u64 a0 1) 6148914691236517205) + (bAnd .u64 a0 6148914691236517205))) 3689348814741910323))) 4) + (IntKind.u64.wrap ((bAnd .u64 (bShr .u64 (IntKind.u64.wrap ((bAnd .u64 (bShr .u64 a0 1) 6148914691236517205) + (bAnd .u64 a0 6148914691236517205))) 2) 3689348814741910323) + (bAnd .u64 (IntKind.u64.wrap ((bAnd .u64 (bShr .u64 a0 1) 6148914691236517205) + (bAnd .u64 a0 6148914691236517205))) 3689348814741910323))))) 1085102592571150095) 8))) 16))) 32)))) 127)
def set_Count_L0 (n : Nat) (a0 : Ar4_dI_u64) : Nat → Int × Int → Option (Lo (Int) (Int))
 | 0, _ => none
 | m0 + 1, (x0_0, x0_1) =>
  if (decide (x0_1 < 4)) then
  if (x0_1 == 0) then
  (math_bits_OnesCount64 a0.e0).bind fun x1 =>
  set_Count_L0 n a0 m0 ((w (x0_0 + x1)), 1)
  else if (x0_1 == 1) then
  (math_bits_OnesCount64 a0.e1).bind fun x2 =>
  set_Count_L0 n a0 m0 ((w (x0_0 + x2)), 2)
  else if (x0_1 == 2) then
  (math_bits_OnesCount64 a0.e2).bind fun x3 =>
  set_Count_L0 n a0 m0 ((w (x0_0 + x3)), 3)
  else if (x0_1 == 3) then
  (math_bits_OnesCount64 a0.e3).bind fun x4 =>
  set_Count_L0 n a0 m0 ((w (x0_0 + x4)), 4)
  else none
  else
  some (.ex x0_0)
def set_Count (n : Nat) (a0 : Ar4_dI_u64) : Option (Int) :=
  (set_Count_L0 n a0 n (0, 0)).bind <| Lo.k id fun o0 =>
  some o0
def rx_kinds_4 (n : Nat) (a0 : TNode) : Option (Bool) :=
  if ((a0.Kind == a0.Kind) && (((a0.Set.e0 == a0.Set.e0) && ((a0.Set.e1 == a0.Set.e1) && ((a0.Set.e2 == a0.Set.e2) && ((a0.Set.e3 == a0.Set.e3) && true)))) && ((a0.Min == 0) && ((a0.Max == 0) && true)))) then
  (set_Count n a0.Set).bind fun x1 =>
  some (decide (x1 > 0))
  else
  some false
def rx_repeats (a0 : TNode) : Option (Bool) :=
  if ((a0.Kind == a0.Kind) && (((a0.Set.e0 == 0) && ((a0.Set.e1 == 0) && ((a0.Set.e2 == 0) && ((a0.Set.e3 == 0) && true)))) && ((a0.Min == a0.Min) && ((a0.Max == a0.Max) && true)))) then
  if (decide (a0.Min ≥ 0)) then
  if (decide (a0.Min ≤ 255)) then
  if (a0.Max == (-1)) then
  some true
  else
  if (decide (a0.Max ≥ a0.Min)) then
  some (decide (a0.Max ≤ 255))
  else
  some false
  else
  some false
  else
  some false
  else
  some false
def rx_known (n : Nat) (a0 : TNode) : Option (Int × Bool) :=
  if (decide (a0.Kind < 1)) then
  some (0, false)
  else
  if (decide (a0.Kind > 9)) then
  some (0, false)
  else
  (rx_kinds).bind fun x42 =>
  if (a0.Kind == 0) then
  none
  else if (a0.Kind == 1) then
  (rx_plain a0).bind fun x483 =>
  some (0, x483)
  else if (a0.Kind == 2) then
  (rx_plain a0).bind fun x483 =>
  some (0, x483)
  else if (a0.Kind == 3) then
  (rx_kinds_4 n a0).bind fun x483 =>
  some (0, x483)
  else if (a0.Kind == 4) then
  (rx_plain a0).bind fun x483 =>
  some (2, x483)
  else if (a0.Kind == 5) then
  (rx_plain a0).bind fun x483 =>
  some (2, x483)
  else if (a0.Kind == 6) then
  (rx_plain a0).bind fun x483 =>
  some (1, x483)
  else if (a0.Kind == 7) then
  (rx_plain a0).bind fun x483 =>
  some (1, x483)
  else if (a0.Kind == 8) then
  (rx_plain a0).bind fun x483 =>
  some (1, x483)
  else if (a0.Kind == 9) then
  (rx_repeats a0).bind fun x483 =>
  some (1, x483)
  else none
def rx_Check_L0 (n : Nat) (a0 : (List TNode)) : Nat → Int × Int → Option (Lo (Int) (Int × Int))
 | 0, _ => none
 | m0 + 1, (x0_0, x0_1) =>
  if (decide (x0_1 < (a0.length : Int))) then
  ixd a0 x0_1 fun e3 =>
  (rx_known n e3).bind fun x5 =>
  if (!x5.2) then
  some (.rt (x0_1, 140))
  else
  if (decide (x5.1 > x0_0)) then
  some (.rt (x0_1, 140))
  else
  rx_Check_L0 n a0 m0 ((w (x0_0 - (w (x5.1 - 1)))), (w (x0_1 + 1)))
  else
  some (.ex x0_0)
def rx_Check (n : Nat) (a0 : (List TNode)) : Option (Int × Int) :=
  (rx_Check_L0 n a0 n (0, 0)).bind <| Lo.k id fun o0 =>
  if (o0 != 1) then
  some ((a0.length : Int), 140)
  else
  some (0, 0)
def rx_need (a0 : Bool) (a1 : Int) : Option (Ex (Unit)) :=
  if (!a0) then
  some (.pan a1)
  else
  some (.ok ())
def rx_of (n : Nat) (a0 : (List TNode)) : Option (Ex ((List TNode))) :=
  (rx_Check n a0).bind fun x3 =>
  (rx_need (x3.2 == 0) 140).bind <| Ex.k .pan fun x4 =>
  some (.ok a0)
def rx_Join_1_L0 (n : Nat) (a0 : (List (List TNode))) : Nat → (List TNode) × Int → Option (Lo ((List TNode)) (Ex ((List TNode))))
 | 0, _ => none
 | m0 + 1, (x0_0, x0_1) =>
  if (decide (x0_1 < (a0.length : Int))) then
  ixd a0 x0_1 fun e3 =>
  (rx_of n e3).bind <| Ex.k (fun e => .rt (.pan e)) fun x7 =>
  apd (x0_0 ++ x7) fun l10 =>
  rx_Join_1_L0 n a0 m0 (l10, (w (x0_1 + 1)))
  else
  some (.ex x0_0)
def rx_Join_1 (n : Nat) (a0 : (List (List TNode))) (a1 : TNode) : Option (Ex ((List TNode))) :=
  (rx_Join_1_L0 n a0 n (([] : (List TNode)), 0)).bind <| Lo.k id fun o0 =>
  (rx_known n a1).bind fun x14 =>
  if x14.2 then
  (rx_need (x14.1 == (a0.length : Int)) 2).bind <| Ex.k .pan fun x18 =>
  apd (o0 ++ ([a1] : (List TNode))) fun l20 =>
  some (.ok l20)
  else
  (rx_need false 2).bind <| Ex.k .pan fun x24 =>
  apd (o0 ++ ([a1] : (List TNode))) fun l26 =>
  some (.ok l26)
def rx_tries_Rx (n : Nat) (a0 : (List (List TNode))) (a1 : TNode) : Option ((List TNode) × Int) :=
  (rx_Join_1 n a0 a1).bind <| Ex.k (fun e10 => ([], e10)) fun x6 =>
  some (x6, 0)
def rx_Join (n : Nat) (a0 : TNode) (a1 : (List (List TNode))) : Option ((List TNode) × Int) :=
  (rx_tries_Rx n a1 a0).bind fun x5 =>
  some (x5.1, x5.2)
def rx_Depth_1_L0 (n : Nat) (a1 : (List Int)) : Nat → Int × Int → Option (Lo (Int) (Int))
 | 0, _ => none
 | m0 + 1, (x0_0, x0_1) =>
  if (decide (x0_1 < (a1.length : Int))) then
  ixd a1 x0_1 fun e3 =>
  rx_Depth_1_L0 n a1 m0 ((mx x0_0 e3), (w (x0_1 + 1)))
  else
  some (.ex x0_0)
def rx_Depth_1 (n : Nat) (a0 : TNode) (a1 : (List Int)) : Option (Int) :=
  (rx_Depth_1_L0 n a1 n (0, 0)).bind <| Lo.k id fun o0 =>
  some (w (o0 + 1))
def rx_folded_int__1_L0 (n : Nat) (x3 : (List TNode)) : Nat → (List Int) × Int → Option (Lo ((List Int)) (Ex (Int)))
 | 0, _ => none
 | m0 + 1, (x0_0, x0_1) =>
  if (decide (x0_1 < (x3.length : Int))) then
  ixd x3 x0_1 fun e6 =>
  (rx_known n e6).bind fun x8 =>
  sld x0_0 (w ((x0_0.length : Int) - x8.1)) (x0_0.length : Int) fun l214 =>
  (rx_Depth_1 n e6 l214).bind fun x254 =>
  sld x0_0 0 (w ((x0_0.length : Int) - x8.1)) fun l334 =>
  apd (l334 ++ ([x254] : (List Int))) fun l337 =>
  rx_folded_int__1_L0 n x3 m0 (l337, (w (x0_1 + 1)))
  else
  some (.ex x0_0)
def rx_folded_int__1 (n : Nat) (a0 : (List TNode)) : Option (Ex (Int)) :=
  (rx_of n a0).bind <| Ex.k .pan fun x3 =>
  (rx_folded_int__1_L0 n x3 n (([] : (List Int)), 0)).bind <| Lo.k id fun o0 =>
  ixd o0 0 fun e341 =>
  some (.ok e341)
def rx_tries_int (n : Nat) (a0 : (List TNode)) : Option (Int × Int) :=
  (rx_folded_int__1 n a0).bind <| Ex.k (fun e6 => (0, e6)) fun x5 =>
  some (x5, 0)
def rx_folded_int (n : Nat) (a0 : (List TNode)) : Option (Int × Int) :=
  (rx_tries_int n a0).bind fun x5 =>
  some (x5.1, x5.2)
def rx_Depth (n : Nat) (a0 : (List TNode)) : Option (Int × Int) :=
  (rx_folded_int n a0).bind fun x3 =>
  some (x3.1, x3.2)
def rx_kinds_2 (a0 : TNode) (a1 : (List Bool)) : Option (Bool) :=
  some false
def rx_kinds_1 (a0 : TNode) (a1 : (List Bool)) : Option (Bool) :=
  some true
def rx_kinds_5 (a0 : TNode) (a1 : (List Bool)) : Option (Bool) :=
  ixd a1 0 fun e3 =>
  if e3 then
  ixd a1 1 fun e5 =>
  some e5
  else
  some false
def rx_kinds_6 (a0 : TNode) (a1 : (List Bool)) : Option (Bool) :=
  ixd a1 0 fun e3 =>
  if e3 then
  some true
  else
  ixd a1 1 fun e5 =>
  some e5
def rx_kinds_3 (a0 : TNode) (a1 : (List Bool)) : Option (Bool) :=
  ixd a1 0 fun e3 =>
  some e3
def rx_kinds_7 (a0 : TNode) (a1 : (List Bool)) : Option (Bool) :=
  if (a0.Min == 0) then
  some true
  else
  ixd a1 0 fun e3 =>
  some e3
def rx_Nullable_1 (a0 : TNode) (a1 : (List Bool)) : Option (Bool) :=
  (rx_kinds).bind fun x44 =>
  if (a0.Kind == 0) then
  none
  else if (a0.Kind == 1) then
  (rx_kinds_2 a0 a1).bind fun x324 =>
  some x324
  else if (a0.Kind == 2) then
  (rx_kinds_1 a0 a1).bind fun x324 =>
  some x324
  else if (a0.Kind == 3) then
  (rx_kinds_2 a0 a1).bind fun x324 =>
  some x324
  else if (a0.Kind == 4) then
  (rx_kinds_5 a0 a1).bind fun x324 =>
  some x324
  else if (a0.Kind == 5) then
  (rx_kinds_6 a0 a1).bind fun x324 =>
  some x324
  else if (a0.Kind == 6) then
  (rx_kinds_1 a0 a1).bind fun x324 =>
  some x324
  else if (a0.Kind == 7) then
  (rx_kinds_3 a0 a1).bind fun x324 =>
  some x324
  else if (a0.Kind == 8) then
  (rx_kinds_1 a0 a1).bind fun x324 =>
  some x324
  else if (a0.Kind == 9) then
  (rx_kinds_7 a0 a1).bind fun x324 =>
  some x324
  else none
def rx_folded_bool__1_L0 (n : Nat) (x3 : (List TNode)) : Nat → (List Bool) × Int → Option (Lo ((List Bool)) (Ex (Bool)))
 | 0, _ => none
 | m0 + 1, (x0_0, x0_1) =>
  if (decide (x0_1 < (x3.length : Int))) then
  ixd x3 x0_1 fun e6 =>
  (rx_known n e6).bind fun x8 =>
  sld x0_0 (w ((x0_0.length : Int) - x8.1)) (x0_0.length : Int) fun l214 =>
  (rx_Nullable_1 e6 l214).bind fun x254 =>
  sld x0_0 0 (w ((x0_0.length : Int) - x8.1)) fun l334 =>
  apd (l334 ++ ([x254] : (List Bool))) fun l337 =>
  rx_folded_bool__1_L0 n x3 m0 (l337, (w (x0_1 + 1)))
  else
  some (.ex x0_0)
def rx_folded_bool__1 (n : Nat) (a0 : (List TNode)) : Option (Ex (Bool)) :=
  (rx_of n a0).bind <| Ex.k .pan fun x3 =>
  (rx_folded_bool__1_L0 n x3 n (([] : (List Bool)), 0)).bind <| Lo.k id fun o0 =>
  ixd o0 0 fun e341 =>
  some (.ok e341)
def rx_tries_bool (n : Nat) (a0 : (List TNode)) : Option (Bool × Int) :=
  (rx_folded_bool__1 n a0).bind <| Ex.k (fun e6 => (false, e6)) fun x5 =>
  some (x5, 0)
def rx_folded_bool (n : Nat) (a0 : (List TNode)) : Option (Bool × Int) :=
  (rx_tries_bool n a0).bind fun x5 =>
  some (x5.1, x5.2)
def rx_Nullable (n : Nat) (a0 : (List TNode)) : Option (Bool × Int) :=
  (rx_folded_bool n a0).bind fun x3 =>
  some (x3.1, x3.2)
def rx_tree_nodes (a0 : Trx_tree) : Option (Trx_tree) :=
  some a0
def rx_tree_nodes_1_L0 {τ : Type} (n : Nat) (a0 : Trx_tree) (y : τ → (Int × Int) → Option (Bool × τ)) : Nat → (List Int) × Int × τ → Option (Lo (τ) (τ))
 | 0, _ => none
 | m0 + 1, (x0_0, x0_1, x0_2) =>
  if (decide (x0_1 < (a0.Rx.length : Int))) then
  ixd a0.Rx x0_1 fun e5 =>
  (rx_known n e5).bind fun x7 =>
  if (decide (x7.1 > 0)) then
  ixd x0_0 (w ((x0_0.length : Int) - x7.1)) fun e11 =>
  sld x0_0 0 (w ((x0_0.length : Int) - x7.1)) fun l13 =>
  apd (l13 ++ ([e11] : (List Int))) fun l16 =>
  (y x0_2 (x0_1, e11)).bind <| yk (fun g20 => rx_tree_nodes_1_L0 n a0 y m0 (l16, (w (x0_1 + 1)), g20)) fun g20 =>
  some (.ex g20)
  else
  sld x0_0 0 (w ((x0_0.length : Int) - x7.1)) fun l21 =>
  apd (l21 ++ ([x0_1] : (List Int))) fun l24 =>
  (y x0_2 (x0_1, x0_1)).bind <| yk (fun g28 => rx_tree_nodes_1_L0 n a0 y m0 (l24, (w (x0_1 + 1)), g28)) fun g28 =>
  some (.ex g28)
  else
  some (.ex x0_2)
def rx_tree_nodes_1 {τ : Type} (n : Nat) (a0 : Trx_tree) (y : τ → (Int × Int) → Option (Bool × τ)) (g : τ) : Option τ :=
  (rx_tree_nodes_1_L0 n a0 y n (([] : (List Int)), 0, g)).bind <| Lo.k id fun o0 =>
  some o0
def rx_tree_begin_R0 (n : Nat) (a1 : Int) : Int → Int × Int → Option (Rd (Int))
 | x0_0, (b0_0, b0_1) =>
  if (b0_0 == a1) then
  some (.rt b0_1)
  else
  some (.go x0_0)
def rx_tree_begin (n : Nat) (a0 : Trx_tree) (a1 : Int) : Option (Int) :=
  (rx_tree_nodes a0).bind fun x3 =>
  (rx_tree_nodes_1 n x3 (yOf (rx_tree_begin_R0 n a1)) (.go 0)).bind <| Rd.k (fun o0 => some a1) (fun j o0 => none) fun o0 =>
  some o0
def rx_tree_cut (a0 : Trx_tree) (a1 : Int) (a2 : Int) : Option ((List TNode)) :=
  mkd (w (a2 - a1)) (⟨0, (⟨0, 0, 0, 0⟩ : Ar4_dI_u64), 0, 0⟩ : TNode) fun l3 =>
  sld a0.Rx a1 a2 fun l6 =>
  cpf l3 l6 fun l9 =>
  sl3 l9 (w (a2 - a1)) fun l11 =>
  some l9
def rx_Below_1 (n : Nat) (a0 : (List TNode)) (a1 : Int) : Option (Ex ((List TNode))) :=
  (rx_of n a0).bind <| Ex.k .pan fun x3 =>
  if (decide (a1 ≥ 0)) then
  (rx_need (decide (a1 < (a0.length : Int))) 2).bind <| Ex.k .pan fun x6 =>
  (rx_tree_begin n (⟨x3⟩ : Trx_tree) a1).bind fun x168 =>
  (rx_tree_cut (⟨x3⟩ : Trx_tree) x168 (w (a1 + 1))).bind fun x288 =>
  some (.ok x288)
  else
  (rx_need false 2).bind <| Ex.k .pan fun x368 =>
  (rx_tree_begin n (⟨x3⟩ : Trx_tree) a1).bind fun x530 =>
  (rx_tree_cut (⟨x3⟩ : Trx_tree) x530 (w (a1 + 1))).bind fun x650 =>
  some (.ok x650)
def rx_tries_Rx_v1 (n : Nat) (a0 : (List TNode)) (a1 : Int) : Option ((List TNode) × Int) :=
  (rx_Below_1 n a0 a1).bind <| Ex.k (fun e10 => ([], e10)) fun x6 =>
  some (x6, 0)
def rx_Below (n : Nat) (a0 : (List TNode)) (a1 : Int) : Option ((List TNode) × Int) :=
  (rx_tries_Rx_v1 n a0 a1).bind fun x5 =>
  some (x5.1, x5.2)
def slices_Reverse_sRx_Rx_L0 (n : Nat) : Nat → (List (List TNode)) × Int × Int → Option (Lo ((List (List TNode))) ((List (List TNode))))
 | 0, _ => none
 | m0 + 1, (x0_0, x0_1, x0_2) =>
  if (decide (x0_1 < x0_2)) then
  ixd x0_0 x0_2 fun e1 =>
  ixd x0_0 x0_1 fun e2 =>
  std x0_0 x0_1 e1 fun l561 =>
  ixd l561 x0_2 fun e601 =>
  std l561 x0_2 e2 fun l641 =>
  slices_Reverse_sRx_Rx_L0 n m0 (l641, (w (x0_1 + 1)), (w (x0_2 - 1)))
  else
  some (.ex x0_0)
def slices_Reverse_sRx_Rx (n : Nat) (a0 : (List (List TNode))) : Option ((List (List TNode))) :=
  (slices_Reverse_sRx_Rx_L0 n n (a0, 0, (w ((a0.length : Int) - 1)))).bind <| Lo.k id fun o0 =>
  lnd o0.length a0.length <| some o0
def rx_Parts_1_L0 (n : Nat) (x3 : (List TNode)) (x8 : Int × Bool) : Nat → (List (List TNode)) × Int → Option (Lo ((List (List TNode))) (Ex ((List (List TNode)))))
 | 0, _ => none
 | m0 + 1, (x0_0, x0_1) =>
  if (decide ((x0_0.length : Int) < x8.1)) then
  (rx_tree_begin n (⟨x3⟩ : Trx_tree) (w (x0_1 - 1))).bind fun x13 =>
  (rx_tree_cut (⟨x3⟩ : Trx_tree) x13 x0_1).bind fun x14 =>
  apd (x0_0 ++ ([x14] : (List (List TNode)))) fun l19 =>
  rx_Parts_1_L0 n x3 x8 m0 (l19, x13)
  else
  some (.ex x0_0)
def rx_Parts_1 (n : Nat) (a0 : (List TNode)) : Option (Ex ((List (List TNode)))) :=
  (rx_of n a0).bind <| Ex.k .pan fun x3 =>
  ixd a0 (w ((a0.length : Int) - 1)) fun e6 =>
  (rx_known n e6).bind fun x8 =>
  (rx_Parts_1_L0 n x3 x8 n (([] : (List (List TNode))), (w ((a0.length : Int) - 1)))).bind <| Lo.k id fun o0 =>
  (slices_Reverse_sRx_Rx n o0).bind fun x23 =>
  some (.ok x23)
def rx_tries_sRx (n : Nat) (a0 : (List TNode)) : Option ((List (List TNode)) × Int) :=
  (rx_Parts_1 n a0).bind <| Ex.k (fun e9 => ([], e9)) fun x5 =>
  some (x5, 0)
def rx_Parts (n : Nat) (a0 : (List TNode)) : Option ((List (List TNode)) × Int) :=
  (rx_tries_sRx n a0).bind fun x4 =>
  some (x4.1, x4.2)
def slices_Grow_Rx_Node (a0 : Int) : Option ((List TNode)) :=
  if (decide (a0 < 0)) then
  none
  else
  if (decide ((w (a0 - 0)) > 0)) then
  gz (w (a0 - 0)) (⟨0, (⟨0, 0, 0, 0⟩ : Ar4_dI_u64), 0, 0⟩ : TNode) fun l1 =>
  sld l1 0 0 fun l5 =>
  some l5
  else
  some []
def slices_Concat_Rx_Node_L1 (n : Nat) (a0 : (List (List TNode))) : Nat → (List TNode) × Int → Option (Lo ((List TNode)) ((List TNode)))
 | 0, _ => none
 | m1 + 1, (x1_0, x1_1) =>
  if (decide (x1_1 < (a0.length : Int))) then
  ixd a0 x1_1 fun e11 =>
  apd (x1_0 ++ e11) fun l15 =>
  slices_Concat_Rx_Node_L1 n a0 m1 (l15, (w (x1_1 + 1)))
  else
  some (.ex x1_0)
def slices_Concat_Rx_Node_L0 (n : Nat) (a0 : (List (List TNode))) : Nat → Int × Int → Option (Lo (Int) ((List TNode)))
 | 0, _ => none
 | m0 + 1, (x0_0, x0_1) =>
  if (decide (x0_1 < (a0.length : Int))) then
  ixd a0 x0_1 fun e3 =>
  if (decide ((w (x0_0 + (e3.length : Int))) < 0)) then
  none
  else
  slices_Concat_Rx_Node_L0 n a0 m0 ((w (x0_0 + (e3.length : Int))), (w (x0_1 + 1)))
  else
  some (.ex x0_0)
def slices_Concat_Rx_Node (n : Nat) (a0 : (List (List TNode))) : Option ((List TNode)) :=
  (slices_Concat_Rx_Node_L0 n a0 n (0, 0)).bind <| Lo.k id fun o0 =>
  (slices_Grow_Rx_Node o0).bind fun x7 =>
  (slices_Concat_Rx_Node_L1 n a0 n (x7, 0)).bind <| Lo.k id fun o1 =>
  some o1
def rx_Norm_1 (n : Nat) (a0 : TNode) (a1 : (List (List TNode))) : Option ((List TNode)) :=
  if (a0.Kind == 9) then
  if (a0.Max == 0) then
  some ([(⟨2, (⟨0, 0, 0, 0⟩ : Ar4_dI_u64), 0, 0⟩ : TNode)] : (List TNode))
  else
  (slices_Concat_Rx_Node n a1).bind fun x85 =>
  apd (x85 ++ ([a0] : (List TNode))) fun l206 =>
  some l206
  else
  (slices_Concat_Rx_Node n a1).bind fun x366 =>
  apd (x366 ++ ([a0] : (List TNode))) fun l487 =>
  some l487
def rx_folded_Rx__1_L0 (n : Nat) (x3 : (List TNode)) : Nat → (List (List TNode)) × Int → Option (Lo ((List (List TNode))) (Ex ((List TNode))))
 | 0, _ => none
 | m0 + 1, (x0_0, x0_1) =>
  if (decide (x0_1 < (x3.length : Int))) then
  ixd x3 x0_1 fun e6 =>
  (rx_known n e6).bind fun x8 =>
  sld x0_0 (w ((x0_0.length : Int) - x8.1)) (x0_0.length : Int) fun l214 =>
  (rx_Norm_1 n e6 l214).bind fun x254 =>
  sld x0_0 0 (w ((x0_0.length : Int) - x8.1)) fun l334 =>
  apd (l334 ++ ([x254] : (List (List TNode)))) fun l337 =>
  rx_folded_Rx__1_L0 n x3 m0 (l337, (w (x0_1 + 1)))
  else
  some (.ex x0_0)
def rx_folded_Rx__1 (n : Nat) (a0 : (List TNode)) : Option (Ex ((List TNode))) :=
  (rx_of n a0).bind <| Ex.k .pan fun x3 =>
  (rx_folded_Rx__1_L0 n x3 n (([] : (List (List TNode))), 0)).bind <| Lo.k id fun o0 =>
  ixd o0 0 fun e341 =>
  some (.ok e341)
def rx_tries_Rx_v2 (n : Nat) (a0 : (List TNode)) : Option ((List TNode) × Int) :=
  (rx_folded_Rx__1 n a0).bind <| Ex.k (fun e9 => ([], e9)) fun x6 =>
  some (x6, 0)
def rx_folded_Rx (n : Nat) (a0 : (List TNode)) : Option ((List TNode) × Int) :=
  (rx_tries_Rx_v2 n a0).bind fun x6 =>
  some (x6.1, x6.2)
def rx_Norm (n : Nat) (a0 : (List TNode)) : Option ((List TNode) × Int) :=
  (rx_folded_Rx n a0).bind fun x4 =>
  some (x4.1, x4.2)
def slices_Equal_Rx_Node_L0 (n : Nat) (a0 : (List TNode)) (a1 : (List TNode)) : Nat → Int → Option (Lo (Unit) (Bool))
 | 0, _ => none
 | m0 + 1, x0_0 =>
  if (decide (x0_0 < (a0.length : Int))) then
  ixd a0 x0_0 fun e125 =>
  ixd a1 x0_0 fun e285 =>
  if (!((e125.Kind == e285.Kind) && (((e125.Set.e0 == e285.Set.e0) && ((e125.Set.e1 == e285.Set.e1) && ((e125.Set.e2 == e285.Set.e2) && ((e125.Set.e3 == e285.Set.e3) && true)))) && ((e125.Min == e285.Min) && ((e125.Max == e285.Max) && true))))) then
  some (.rt false)
  else
  slices_Equal_Rx_Node_L0 n a0 a1 m0 (w (x0_0 + 1))
  else
  some (.ex ())
def slices_Equal_Rx_Node (n : Nat) (a0 : (List TNode)) (a1 : (List TNode)) : Option (Bool) :=
  if ((a0.length : Int) != (a1.length : Int)) then
  some false
  else
  (slices_Equal_Rx_Node_L0 n a0 a1 n 0).bind <| Lo.k id fun o0 =>
  some true
def rx_Same (n : Nat) (a0 : (List TNode)) (a1 : (List TNode)) : Option (Bool) :=
  (slices_Equal_Rx_Node n a0 a1).bind fun x5 =>
  some x5
def law04_wakes (n : Nat)  : Option (Bool) :=
  (law04_a).bind fun x1 =>
  (law04_a).bind fun x5 =>
  (rx_Join n (⟨4, (⟨0, 0, 0, 0⟩ : Ar4_dI_u64), 0, 0⟩ : TNode) ([x1, x5] : (List (List TNode)))).bind fun x10 =>
  (rx_Join n (⟨6, (⟨0, 0, 0, 0⟩ : Ar4_dI_u64), 0, 0⟩ : TNode) ([x10.1] : (List (List TNode)))).bind fun x15 =>
  (rx_Depth n x15.1).bind fun x19 =>
  (rx_Nullable n x15.1).bind fun x20 =>
  (law04_a).bind fun x21 =>
  (law04_a).bind fun x25 =>
  apd (x21 ++ x25) fun l29 =>
  (rx_Check n l29).bind fun x33 =>
  (law04_a).bind fun x34 =>
  apd (x34 ++ ([(⟨4, (⟨0, 0, 0, 0⟩ : Ar4_dI_u64), 0, 0⟩ : TNode)] : (List TNode))) fun l39 =>
  (rx_Check n l39).bind fun x43 =>
  (rx_Below n x10.1 1).bind fun x44 =>
  (rx_Parts n x10.1).bind fun x48 =>
  (law04_a).bind fun x52 =>
  apd (x52 ++ ([(⟨9, (⟨0, 0, 0, 0⟩ : Ar4_dI_u64), 0, 0⟩ : TNode), (⟨6, (⟨0, 0, 0, 0⟩ : Ar4_dI_u64), 0, 0⟩ : TNode)] : (List TNode))) fun l57 =>
  (rx_Norm n l57).bind fun x61 =>
  if (x10.2 == 0) then
  if (x15.2 == 0) then
  if (x19.2 == 0) then
  if (x20.2 == 0) then
  if (x44.2 == 0) then
  if (x48.2 == 0) then
  if (x61.2 == 0) then
  if (x33.2 == 140) then
  if (x43.2 == 140) then
  if ((x15.1.length : Int) == 4) then
  if (x19.1 == 3) then
  if x20.1 then
  if (x33.1 == 2) then
  if (x43.1 == 1) then
  (law04_a).bind fun x64 =>
  (rx_Same n x44.1 x64).bind fun x68 =>
  if x68 then
  if ((x48.1.length : Int) == 2) then
  (rx_Same n x61.1 ([(⟨2, (⟨0, 0, 0, 0⟩ : Ar4_dI_u64), 0, 0⟩ : TNode), (⟨6, (⟨0, 0, 0, 0⟩ : Ar4_dI_u64), 0, 0⟩ : TNode)] : (List TNode))).bind fun x70 =>
  some x70
  else
  some false
  else
  some false
  else
  some false
  else
  some false
  else
  some false
  else
  some false
  else
  some false
  else
  some false
  else
  some false
  else
  some false
  else
  some false
  else
  some false
  else
  some false
  else
  some false
  else
  some false
  else
  some false
def slices_Clone_Rx_Node (a0 : (List TNode)) : Option ((List TNode)) :=
  apd (([] : (List TNode)) ++ a0) fun l4 =>
  some l4
def law04_own (a0 : (List TNode)) : Option ((List TNode)) :=
  sld a0 0 (mn (a0.length : Int) 60) fun l3 =>
  (slices_Clone_Rx_Node l3).bind fun x6 =>
  some x6
def slices_Clone_sint_int (a0 : (List Int)) : Option ((List Int)) :=
  apd (([] : (List Int)) ++ a0) fun l4 =>
  some l4
def slices_Index_sint_int_L0 (n : Nat) (a0 : (List Int)) (a1 : Int) : Nat → Int → Option (Lo (Unit) (Int))
 | 0, _ => none
 | m0 + 1, x0_0 =>
  if (decide (x0_0 < (a0.length : Int))) then
  ixd a0 x0_0 fun e3 =>
  if (a1 == e3) then
  some (.rt x0_0)
  else
  slices_Index_sint_int_L0 n a0 a1 m0 (w (x0_0 + 1))
  else
  some (.ex ())
def slices_Index_sint_int (n : Nat) (a0 : (List Int)) (a1 : Int) : Option (Int) :=
  (slices_Index_sint_int_L0 n a0 a1 n 0).bind <| Lo.k id fun o0 =>
  some (-1)
def slices_Contains_sint_int (n : Nat) (a0 : (List Int)) (a1 : Int) : Option (Bool) :=
  (slices_Index_sint_int n a0 a1).bind fun x3 =>
  some (decide (x3 ≥ 0))
def rx_Count_1_L0 (n : Nat) (a1 : (List Int)) (x5 : (List TNode)) : Nat → Int × Int → Option (Lo (Int) (Ex (Int)))
 | 0, _ => none
 | m0 + 1, (x0_0, x0_1) =>
  if (decide (x0_1 < (x5.length : Int))) then
  ixd x5 x0_1 fun e8 =>
  if ((a1.length : Int) == 0) then
  rx_Count_1_L0 n a1 x5 m0 ((w (x0_0 + 1)), (w (x0_1 + 1)))
  else
  (slices_Contains_sint_int n a1 e8.Kind).bind fun x10 =>
  if x10 then
  rx_Count_1_L0 n a1 x5 m0 ((w (x0_0 + 1)), (w (x0_1 + 1)))
  else
  rx_Count_1_L0 n a1 x5 m0 (x0_0, (w (x0_1 + 1)))
  else
  some (.ex x0_0)
def rx_Count_1 (n : Nat) (a0 : (List TNode)) (a1 : (List Int)) : Option (Ex (Int)) :=
  (rx_of n a0).bind <| Ex.k .pan fun x5 =>
  (rx_Count_1_L0 n a1 x5 n (0, 0)).bind <| Lo.k id fun o0 =>
  some (.ok o0)
def rx_tries_int_v1 (n : Nat) (a0 : (List TNode)) (a1 : (List Int)) : Option (Int × Int) :=
  (rx_Count_1 n a0 a1).bind <| Ex.k (fun e8 => (0, e8)) fun x7 =>
  some (x7, 0)
def rx_Count (n : Nat) (a0 : (List TNode)) (a1 : (List Int)) : Option (Int × Int) :=
  (rx_tries_int_v1 n a0 a1).bind fun x7 =>
  some (x7.1, x7.2)
def rx_Sets_1_L0 (n : Nat) (x4 : (List TNode)) : Nat → (List (Ar4_dI_u64 × Int)) × (List Ar4_dI_u64) × Int → Option (Lo ((List Ar4_dI_u64)) (Ex ((List Ar4_dI_u64))))
 | 0, _ => none
 | m0 + 1, (x0_0, x0_1, x0_2) =>
  if (decide (x0_2 < (x4.length : Int))) then
  ixd x4 x0_2 fun e7 =>
  if (e7.Kind != 3) then
  rx_Sets_1_L0 n x4 m0 (x0_0, x0_1, (w (x0_2 + 1)))
  else
  bd1 (mtch eqk_24 e7.Set 0 x0_0) fun l250 =>
  bd1 (mput eqk_24 e7.Set (w (((mget eqk_24 x0_0 e7.Set).getD 0) + 1)) l250) fun l330 =>
  if (((mget eqk_24 l330 e7.Set).getD 0) == 1) then
  apd (x0_1 ++ ([e7.Set] : (List Ar4_dI_u64))) fun l371 =>
  rx_Sets_1_L0 n x4 m0 (l330, l371, (w (x0_2 + 1)))
  else
  rx_Sets_1_L0 n x4 m0 (l330, x0_1, (w (x0_2 + 1)))
  else
  some (.ex x0_1)
def rx_Sets_1 (n : Nat) (a0 : (List TNode)) : Option (Ex ((List Ar4_dI_u64))) :=
  (rx_of n a0).bind <| Ex.k .pan fun x4 =>
  (rx_Sets_1_L0 n x4 n (([] : (List (Ar4_dI_u64 × Int))), ([] : (List Ar4_dI_u64)), 0)).bind <| Lo.k id fun o0 =>
  some (.ok o0)
def rx_tries_sSet (n : Nat) (a0 : (List TNode)) : Option ((List Ar4_dI_u64) × Int) :=
  (rx_Sets_1 n a0).bind <| Ex.k (fun e9 => ([], e9)) fun x5 =>
  some (x5, 0)
def rx_Sets (n : Nat) (a0 : (List TNode)) : Option ((List Ar4_dI_u64) × Int) :=
  (rx_tries_sSet n a0).bind fun x4 =>
  some (x4.1, x4.2)
def ref04_Arity (a0 : Int) : Option (Int) :=
  if (a0 == 1) then
  some 0
  else
  if (a0 == 2) then
  some 0
  else
  if (a0 == 3) then
  some 0
  else
  if (a0 == 4) then
  some 2
  else
  if (a0 == 5) then
  some 2
  else
  if (a0 == 6) then
  some 1
  else
  if (a0 == 7) then
  some 1
  else
  if (a0 == 8) then
  some 1
  else
  if (a0 == 9) then
  some 1
  else
  some (-1)
def ref04_Node (a0 : TNode) : Option (Bool) :=
  (ref04_Arity a0.Kind).bind fun x122 =>
  if (decide (x122 < 0)) then
  some false
  else
  if (!((a0.Kind == 3) == (!((a0.Set.e0 == 0) && ((a0.Set.e1 == 0) && ((a0.Set.e2 == 0) && ((a0.Set.e3 == 0) && true))))))) then
  some false
  else
  if (a0.Kind != 9) then
  if (a0.Min == 0) then
  some (a0.Max == 0)
  else
  some false
  else
  if (decide (a0.Min ≥ 0)) then
  if (decide (a0.Min ≤ 255)) then
  if (a0.Max == (-1)) then
  some true
  else
  if (decide (a0.Max ≥ a0.Min)) then
  some (decide (a0.Max ≤ 255))
  else
  some false
  else
  some false
  else
  some false
def ref04_Check_L0 (n : Nat) (a0 : (List TNode)) : Nat → Int × Int → Option (Lo (Int) (Int))
 | 0, _ => none
 | m0 + 1, (x0_0, x0_1) =>
  if (decide (x0_1 < (a0.length : Int))) then
  ixd a0 x0_1 fun e3 =>
  (ref04_Node e3).bind fun x5 =>
  if (!x5) then
  some (.rt x0_1)
  else
  (ref04_Arity e3.Kind).bind fun x6 =>
  if (decide (x6 > x0_0)) then
  some (.rt x0_1)
  else
  (ref04_Arity e3.Kind).bind fun x7 =>
  ref04_Check_L0 n a0 m0 ((w ((w (x0_0 - x7)) + 1)), (w (x0_1 + 1)))
  else
  some (.ex x0_0)
def ref04_Check (n : Nat) (a0 : (List TNode)) : Option (Int) :=
  (ref04_Check_L0 n a0 n (0, 0)).bind <| Lo.k id fun o0 =>
  if (o0 != 1) then
  some (a0.length : Int)
  else
  some (-1)
def ref04_begin_L0 (n : Nat) (a0 : (List TNode)) : Nat → Int × Int → Option (Lo (Unit) (Int))
 | 0, _ => none
 | m0 + 1, (x0_0, x0_1) =>
  if (decide (x0_1 ≥ 0)) then
  ixd a0 x0_1 fun e3 =>
  (ref04_Arity e3.Kind).bind fun x6 =>
  if ((w ((w (x0_0 - 1)) + x6)) == 0) then
  some (.rt x0_1)
  else
  ref04_begin_L0 n a0 m0 ((w ((w (x0_0 - 1)) + x6)), (w (x0_1 - 1)))
  else
  some (.ex ())
def ref04_begin (n : Nat) (a0 : (List TNode)) (a1 : Int) : Option (Int) :=
  (ref04_begin_L0 n a0 n (1, a1)).bind <| Lo.k id fun o0 =>
  some 0
def ref04_Parts (n : Nat) (a0 : (List TNode)) : Option ((List (List TNode))) :=
  ixd a0 (w ((a0.length : Int) - 1)) fun e3 =>
  (ref04_Arity e3.Kind).bind fun x6 =>
  if (x6 == 1) then
  sld a0 0 (w ((a0.length : Int) - 1)) fun l7 =>
  apd (([] : (List TNode)) ++ l7) fun l11 =>
  some ([l11] : (List (List TNode)))
  else
  if (x6 == 2) then
  (ref04_begin n a0 (w ((w ((a0.length : Int) - 1)) - 1))).bind fun x16 =>
  sld a0 0 x16 fun l177 =>
  sld a0 x16 (w ((a0.length : Int) - 1)) fun l417 =>
  apd (([] : (List TNode)) ++ l177) fun l218 =>
  apd (([] : (List TNode)) ++ l417) fun l458 =>
  some ([l218, l458] : (List (List TNode)))
  else
  some []
def ref04_Depth_L0 (self : (List TNode) → Option (Int)) (n : Nat) (x3 : (List (List TNode))) : Nat → Int × Int → Option (Lo (Int) (Int))
 | 0, _ => none
 | m0 + 1, (x0_0, x0_1) =>
  if (decide (x0_1 < (x3.length : Int))) then
  ixd x3 x0_1 fun e7 =>
  (self e7).bind fun x11 =>
  if (decide (x11 > x0_0)) then
  ref04_Depth_L0 self n x3 m0 (x11, (w (x0_1 + 1)))
  else
  ref04_Depth_L0 self n x3 m0 (x0_0, (w (x0_1 + 1)))
  else
  some (.ex x0_0)
def ref04_Depth : Nat → (List TNode) → Option (Int)
 | 0, _ => none
 | n + 1, a0 =>
  (ref04_Parts n a0).bind fun x3 =>
  (ref04_Depth_L0 (ref04_Depth n) n x3 n (0, 0)).bind <| Lo.k id fun o0 =>
  some (w (o0 + 1))
def ref04_Count_L1 (n : Nat) (a1 : (List Int)) (e5 : TNode) : Nat → Bool × Int → Option (Lo (Bool) (Int))
 | 0, _ => none
 | m1 + 1, (x1_0, x1_1) =>
  if (decide (x1_1 < (a1.length : Int))) then
  ixd a1 x1_1 fun e7 =>
  if x1_0 then
  ref04_Count_L1 n a1 e5 m1 (true, (w (x1_1 + 1)))
  else
  ref04_Count_L1 n a1 e5 m1 ((e5.Kind == e7), (w (x1_1 + 1)))
  else
  some (.ex x1_0)
def ref04_Count_L0 (n : Nat) (a0 : (List TNode)) (a1 : (List Int)) : Nat → Int × Int → Option (Lo (Int) (Int))
 | 0, _ => none
 | m0 + 1, (x0_0, x0_1) =>
  if (decide (x0_1 < (a0.length : Int))) then
  ixd a0 x0_1 fun e5 =>
  (ref04_Count_L1 n a1 e5 n (((a1.length : Int) == 0), 0)).bind <| Lo.k .rt fun o1 =>
  if o1 then
  ref04_Count_L0 n a0 a1 m0 ((w (x0_0 + 1)), (w (x0_1 + 1)))
  else
  ref04_Count_L0 n a0 a1 m0 (x0_0, (w (x0_1 + 1)))
  else
  some (.ex x0_0)
def ref04_Count (n : Nat) (a0 : (List TNode)) (a1 : (List Int)) : Option (Int) :=
  (ref04_Count_L0 n a0 a1 n (0, 0)).bind <| Lo.k id fun o0 =>
  some o0
def ref04_Nullable : Nat → (List TNode) → Option (Bool)
 | 0, _ => none
 | n + 1, a0 =>
  (ref04_Parts n a0).bind fun x3 =>
  ixd a0 (w ((a0.length : Int) - 1)) fun e7 =>
  if (e7.Kind == 2) then
  some true
  else
  if (e7.Kind == 6) then
  some true
  else
  if (e7.Kind == 8) then
  some true
  else
  if (e7.Kind == 4) then
  ixd x3 0 fun e9 =>
  ((ref04_Nullable n) e9).bind fun x13 =>
  if x13 then
  ixd x3 1 fun e14 =>
  ((ref04_Nullable n) e14).bind fun x18 =>
  some x18
  else
  some false
  else
  if (e7.Kind == 5) then
  ixd x3 0 fun e19 =>
  ((ref04_Nullable n) e19).bind fun x23 =>
  if x23 then
  some true
  else
  ixd x3 1 fun e24 =>
  ((ref04_Nullable n) e24).bind fun x28 =>
  some x28
  else
  if (e7.Kind == 7) then
  ixd x3 0 fun e29 =>
  ((ref04_Nullable n) e29).bind fun x33 =>
  some x33
  else
  if (e7.Kind == 9) then
  if (e7.Min == 0) then
  some true
  else
  ixd x3 0 fun e34 =>
  ((ref04_Nullable n) e34).bind fun x38 =>
  some x38
  else
  some false
def ref04_Sets_L1 (n : Nat) (x0_0 : (List Ar4_dI_u64)) (e3 : TNode) : Nat → Bool × Int → Option (Lo (Bool) ((List Ar4_dI_u64)))
 | 0, _ => none
 | m1 + 1, (x1_0, x1_1) =>
  if (decide (x1_1 < (x0_0.length : Int))) then
  ixd x0_0 x1_1 fun e5 =>
  if x1_0 then
  ref04_Sets_L1 n x0_0 e3 m1 (true, (w (x1_1 + 1)))
  else
  ref04_Sets_L1 n x0_0 e3 m1 (((e5.e0 == e3.Set.e0) && ((e5.e1 == e3.Set.e1) && ((e5.e2 == e3.Set.e2) && ((e5.e3 == e3.Set.e3) && true)))), (w (x1_1 + 1)))
  else
  some (.ex x1_0)
def ref04_Sets_L0 (n : Nat) (a0 : (List TNode)) : Nat → (List Ar4_dI_u64) × Int → Option (Lo ((List Ar4_dI_u64)) ((List Ar4_dI_u64)))
 | 0, _ => none
 | m0 + 1, (x0_0, x0_1) =>
  if (decide (x0_1 < (a0.length : Int))) then
  ixd a0 x0_1 fun e3 =>
  (ref04_Sets_L1 n x0_0 e3 n ((e3.Kind != 3), 0)).bind <| Lo.k .rt fun o1 =>
  if (!o1) then
  apd (x0_0 ++ ([e3.Set] : (List Ar4_dI_u64))) fun l8 =>
  ref04_Sets_L0 n a0 m0 (l8, (w (x0_1 + 1)))
  else
  ref04_Sets_L0 n a0 m0 (x0_0, (w (x0_1 + 1)))
  else
  some (.ex x0_0)
def ref04_Sets (n : Nat) (a0 : (List TNode)) : Option ((List Ar4_dI_u64)) :=
  (ref04_Sets_L0 n a0 n (([] : (List Ar4_dI_u64)), 0)).bind <| Lo.k id fun o0 =>
  some o0
def slices_Equal_sSet_Set_L0 (n : Nat) (a0 : (List Ar4_dI_u64)) (a1 : (List Ar4_dI_u64)) : Nat → Int → Option (Lo (Unit) (Bool))
 | 0, _ => none
 | m0 + 1, x0_0 =>
  if (decide (x0_0 < (a0.length : Int))) then
  ixd a0 x0_0 fun e125 =>
  ixd a1 x0_0 fun e285 =>
  if (!((e125.e0 == e285.e0) && ((e125.e1 == e285.e1) && ((e125.e2 == e285.e2) && ((e125.e3 == e285.e3) && true))))) then
  some (.rt false)
  else
  slices_Equal_sSet_Set_L0 n a0 a1 m0 (w (x0_0 + 1))
  else
  some (.ex ())
def slices_Equal_sSet_Set (n : Nat) (a0 : (List Ar4_dI_u64)) (a1 : (List Ar4_dI_u64)) : Option (Bool) :=
  if ((a0.length : Int) != (a1.length : Int)) then
  some false
  else
  (slices_Equal_sSet_Set_L0 n a0 a1 n 0).bind <| Lo.k id fun o0 =>
  some true
def ref04_Join_L0 (n : Nat) (a1 : (List (List TNode))) : Nat → (List TNode) × Int → Option (Lo ((List TNode)) ((List TNode)))
 | 0, _ => none
 | m0 + 1, (x0_0, x0_1) =>
  if (decide (x0_1 < (a1.length : Int))) then
  ixd a1 x0_1 fun e3 =>
  apd (x0_0 ++ e3) fun l7 =>
  ref04_Join_L0 n a1 m0 (l7, (w (x0_1 + 1)))
  else
  some (.ex x0_0)
def ref04_Join (n : Nat) (a0 : TNode) (a1 : (List (List TNode))) : Option ((List TNode)) :=
  (ref04_Join_L0 n a1 n (([] : (List TNode)), 0)).bind <| Lo.k id fun o0 =>
  apd (o0 ++ ([a0] : (List TNode))) fun l12 =>
  some l12
def ref04_Norm_L0 (self : (List TNode) → Option ((List TNode))) (n : Nat) (x6 : (List (List TNode))) : Nat → (List (List TNode)) × Int → Option (Lo ((List (List TNode))) ((List TNode)))
 | 0, _ => none
 | m0 + 1, (x0_0, x0_1) =>
  if (decide (x0_1 < (x6.length : Int))) then
  ixd x6 x0_1 fun e10 =>
  (self e10).bind fun x14 =>
  apd (x0_0 ++ ([x14] : (List (List TNode)))) fun l19 =>
  ref04_Norm_L0 self n x6 m0 (l19, (w (x0_1 + 1)))
  else
  some (.ex x0_0)
def ref04_Norm_L1 (self : (List TNode) → Option ((List TNode))) (n : Nat) (x27 : (List (List TNode))) : Nat → (List (List TNode)) × Int → Option (Lo ((List (List TNode))) ((List TNode)))
 | 0, _ => none
 | m1 + 1, (x1_0, x1_1) =>
  if (decide (x1_1 < (x27.length : Int))) then
  ixd x27 x1_1 fun e31 =>
  (self e31).bind fun x35 =>
  apd (x1_0 ++ ([x35] : (List (List TNode)))) fun l40 =>
  ref04_Norm_L1 self n x27 m1 (l40, (w (x1_1 + 1)))
  else
  some (.ex x1_0)
def ref04_Norm : Nat → (List TNode) → Option ((List TNode))
 | 0, _ => none
 | n + 1, a0 =>
  ixd a0 (w ((a0.length : Int) - 1)) fun e3 =>
  if (e3.Kind == 9) then
  if (e3.Max == 0) then
  some ([(⟨2, (⟨0, 0, 0, 0⟩ : Ar4_dI_u64), 0, 0⟩ : TNode)] : (List TNode))
  else
  (ref04_Parts n a0).bind fun x6 =>
  (ref04_Norm_L0 (ref04_Norm n) n x6 n (([] : (List (List TNode))), 0)).bind <| Lo.k id fun o0 =>
  (ref04_Join n e3 o0).bind fun x23 =>
  some x23
  else
  (ref04_Parts n a0).bind fun x27 =>
  (ref04_Norm_L1 (ref04_Norm n) n x27 n (([] : (List (List TNode))), 0)).bind <| Lo.k id fun o1 =>
  (ref04_Join n e3 o1).bind fun x44 =>
  some x44
def ref04_Same_L0 (n : Nat) (a0 : (List TNode)) (a1 : (List TNode)) : Nat → Int → Option (Lo (Unit) (Bool))
 | 0, _ => none
 | m0 + 1, x0_0 =>
  if (decide (x0_0 < (a0.length : Int))) then
  ixd a0 x0_0 fun e5 =>
  ixd a1 x0_0 fun e168 =>
  if (!((e5.Kind == e168.Kind) && (((e5.Set.e0 == e168.Set.e0) && ((e5.Set.e1 == e168.Set.e1) && ((e5.Set.e2 == e168.Set.e2) && ((e5.Set.e3 == e168.Set.e3) && true)))) && ((e5.Min == e168.Min) && ((e5.Max == e168.Max) && true))))) then
  some (.rt false)
  else
  ref04_Same_L0 n a0 a1 m0 (w (x0_0 + 1))
  else
  some (.ex ())
def ref04_Same (n : Nat) (a0 : (List TNode)) (a1 : (List TNode)) : Option (Bool) :=
  if ((a0.length : Int) != (a1.length : Int)) then
  some false
  else
  (ref04_Same_L0 n a0 a1 n 0).bind <| Lo.k id fun o0 =>
  some true
def slices_Equal_sint_int_L0 (n : Nat) (a0 : (List Int)) (a1 : (List Int)) : Nat → Int → Option (Lo (Unit) (Bool))
 | 0, _ => none
 | m0 + 1, x0_0 =>
  if (decide (x0_0 < (a0.length : Int))) then
  ixd a0 x0_0 fun e125 =>
  ixd a1 x0_0 fun e285 =>
  if (e125 != e285) then
  some (.rt false)
  else
  slices_Equal_sint_int_L0 n a0 a1 m0 (w (x0_0 + 1))
  else
  some (.ex ())
def slices_Equal_sint_int (n : Nat) (a0 : (List Int)) (a1 : (List Int)) : Option (Bool) :=
  if ((a0.length : Int) != (a1.length : Int)) then
  some false
  else
  (slices_Equal_sint_int_L0 n a0 a1 n 0).bind <| Lo.k id fun o0 =>
  some true
def law04_RxTells_L0 (n : Nat) (x455 : (List TNode) × Int) : Nat → (List TNode) × Int → Option (Lo (Unit) (Bool))
 | 0, _ => none
 | m0 + 1, (x0_0, x0_1) =>
  if (decide (x0_1 < (x455.1.length : Int))) then
  ixd x0_0 x0_1 fun e473 =>
  std x0_0 x0_1 ({ e473 with Kind := 0 } : TNode) fun l476 =>
  law04_RxTells_L0 n x455 m0 (l476, (w (x0_1 + 1)))
  else
  some (.ex ())
def law04_RxTells (n : Nat) (a0 : (List TNode)) (a1 : (List Int)) : Option (Bool) :=
  (law04_wakes 100).bind fun x5 =>
  if (!x5) then
  some false
  else
  (law04_own a0).bind fun x86 =>
  sld a1 0 (mn (a1.length : Int) 6) fun l286 =>
  (slices_Clone_sint_int l286).bind fun x326 =>
  (rx_Depth n x86).bind fun x446 =>
  (rx_Count n x86 x326).bind fun x447 =>
  (rx_Nullable n x86).bind fun x448 =>
  (rx_Sets n x86).bind fun x449 =>
  (rx_Norm n x86).bind fun x455 =>
  (ref04_Check n x86).bind fun x458 =>
  if (decide (x458 ≥ 0)) then
  if (x446.2 == 140) then
  if (x447.2 == x446.2) then
  if (x448.2 == x446.2) then
  if (x449.2 == x446.2) then
  if (x455.2 == x446.2) then
  if ((w ((w ((w (x446.1 + x447.1)) + (x449.1.length : Int))) + (x455.1.length : Int))) == 0) then
  some (!x448.1)
  else
  some false
  else
  some false
  else
  some false
  else
  some false
  else
  some false
  else
  some false
  else
  if (x446.2 != 0) then
  some false
  else
  if (x447.2 != x446.2) then
  some false
  else
  if (x448.2 != x446.2) then
  some false
  else
  if (x449.2 != x446.2) then
  some false
  else
  if (x455.2 != x446.2) then
  some false
  else
  (ref04_Depth n x86).bind fun x459 =>
  if (x446.1 != x459) then
  some false
  else
  (ref04_Count n x86 x326).bind fun x460 =>
  if (x447.1 != x460) then
  some false
  else
  (ref04_Nullable n x86).bind fun x461 =>
  if (!(x448.1 == x461)) then
  some false
  else
  (ref04_Sets n x86).bind fun x462 =>
  (slices_Equal_sSet_Set n x449.1 x462).bind fun x466 =>
  if (!x466) then
  some false
  else
  (ref04_Norm n x86).bind fun x467 =>
  (ref04_Same n x455.1 x467).bind fun x471 =>
  if (!x471) then
  some false
  else
  (law04_RxTells_L0 n x455 n (x455.1, 0)).bind <| Lo.k id fun o0 =>
  (law04_own a0).bind fun x478 =>
  (ref04_Same n x86 x478).bind fun x482 =>
  if x482 then
  sld a1 0 (x326.length : Int) fun l483 =>
  (slices_Equal_sint_int n x326 l483).bind fun x486 =>
  some x486
  else
  some false
end Go.Sx
