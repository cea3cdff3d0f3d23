/- TlW: printed. The walks. -/
import Derived.Test.YtgkjblbmiooedaaTlF
import Derived.Test.YtgkjblbmiooedaaProg
namespace Go.Sx
open Go.Proofs Go.RowKit
set_option maxRecDepth 100000
set_option linter.unusedVariables false
def law04_a_p   (r : (List TNode)) : Post := tPost (fun t : Option Addr × Nat × List Value => .v (.slice t.1 r.length t.2.1)) (fun t => [.o (.slice t.1 r.length t.2.1) r.length t.2.2 26 7]) (fun t => [.r 7 (r.map TNode.d) t.2.2])
theorem law04_a_c (Φ : Phi)   (H : Reps Φ []) : ∀ r, law04_a = some r → CallG Try.prog 39 [] [] Φ ((law04_a_p) r) := by
 refine CallG.W Try.func39 fun E G β0 => ?_
 rw [law04_a]
 refine W.row 11 0 TNode.d [(⟨3, (⟨0, 8589934592, 0, 0⟩ : Ar4_dI_u64), 0, 0⟩ : TNode)] [[]] 7 H (fun g1 H => ?_)
 exact W.ret 0 [0] ((some (⟨g1, 0, none⟩ : Addr)), 1, _) [0] H
def rx_kinds_p   (r : Unit) : Post := tPost (fun t : Unit => .agg [.v (.int .i64 0), .v (.nilFunc), .v (.nilFunc), .v (.int .i64 0), .v (.func (.func 81) #[] #[]), .v (.func (.func 79) #[] #[]), .v (.int .i64 0), .v (.func (.func 81) #[] #[]), .v (.func (.func 78) #[] #[]), .v (.int .i64 0), .v (.func (.func 82) #[] #[]), .v (.func (.func 79) #[] #[]), .v (.int .i64 2), .v (.func (.func 81) #[] #[]), .v (.func (.func 83) #[] #[]), .v (.int .i64 2), .v (.func (.func 81) #[] #[]), .v (.func (.func 84) #[] #[]), .v (.int .i64 1), .v (.func (.func 81) #[] #[]), .v (.func (.func 78) #[] #[]), .v (.int .i64 1), .v (.func (.func 81) #[] #[]), .v (.func (.func 80) #[] #[]), .v (.int .i64 1), .v (.func (.func 81) #[] #[]), .v (.func (.func 78) #[] #[]), .v (.int .i64 1), .v (.func (.func 85) #[] #[]), .v (.func (.func 86) #[] #[])]) (fun t => []) (fun t => [])
theorem rx_kinds_c (Φ : Phi)   (H : Reps Φ []) : ∀ r, rx_kinds = some r → CallG Try.prog 53 [] [] Φ ((rx_kinds_p) r) := by
 refine CallG.W Try.func53 fun E G β0 => ?_
 rw [rx_kinds]
 exact W.ret 36 [] () [] H
def rx_plain_p (a0 : TNode)  (r : Bool) : Post := tPost (fun t : Unit => .v (.bool r)) (fun t => []) (fun t => [])
theorem rx_plain_c (Φ : Phi) (a0 : TNode)  (H : Reps Φ []) : ∀ r, rx_plain a0 = some r → CallG Try.prog 81 [.agg [.v (.int .i64 a0.Kind), .v (.int .u64 a0.Set.e0), .v (.int .u64 a0.Set.e1), .v (.int .u64 a0.Set.e2), .v (.int .u64 a0.Set.e3), .v (.int .i64 a0.Min), .v (.int .i64 a0.Max)]] [] Φ ((rx_plain_p a0) r) := by
 refine CallG.W Try.func81 fun E G β0 => ?_
 rw [rx_plain]
 refine W.eq 11 ((a0.Kind == a0.Kind) && (((a0.Set.e0 == 0) && ((a0.Set.e1 == 0) && ((a0.Set.e2 == 0) && ((a0.Set.e3 == 0) && true)))) && ((a0.Min == 0) && ((a0.Max == 0) && true)))) ?_
 exact W.ret 2 [] () [] H
def math_bits_OnesCount64_p (a0 : Int)  (r : Int) : Post := tPost (fun t : Unit => .v (.int .i64 r)) (fun t => []) (fun t => [])
theorem math_bits_OnesCount64_c (Φ : Phi) (a0 : Int)  (H : Reps Φ []) : ∀ r, math_bits_OnesCount64 a0 = some r → CallG Try.prog 71 [.v (.int .u64 a0)] [] Φ ((math_bits_OnesCount64_p a0) r) := by
 refine CallG.W Try.func71 fun E G β0 => ?_
 rw [math_bits_OnesCount64]
 exact W.ret 64 [] () [] H
def set_Count_p (a0 : Ar4_dI_u64)  (r : Int) : Post := tPost (fun t : Unit => .v (.int .i64 r)) (fun t => []) (fun t => [])
theorem set_Count_c (n : Nat) (Φ : Phi) (a0 : Ar4_dI_u64)  (H : Reps Φ []) : ∀ r, set_Count n a0 = some r → CallG Try.prog 38 [.agg [.v (.int .u64 a0.e0), .v (.int .u64 a0.e1), .v (.int .u64 a0.e2), .v (.int .u64 a0.e3)]] [] Φ ((set_Count_p a0) r) := by
 refine CallG.W Try.func38 fun E G β0 => ?_
 rw [set_Count]
 refine W.lp 17 0 (fun m st => set_Count_L0 n a0 m st) (fun (st : Int × Int) (t : Unit) => ⟨fr 16 [(3, .v (.int .i64 st.1)), (6, .agg [.v (.int .u64 a0.e0), .v (.int .u64 a0.e1), .v (.int .u64 a0.e2), .v (.int .u64 a0.e3)]), (7, .v (.int .i64 st.2))], []⟩) (fun (st : Int × Int) (t : Unit) => []) (fun (st : Int) (t : Unit) => ⟨fr 16 [(3, .v (.int .i64 st))], []⟩) (fun (st : Int) (t : Unit) => []) () (H.sub [] rfl) (fun _ => rfl) ?_ ?_
 · rintro o0 ⟨⟩ Φ H
   exact W.ret 5 [] () [] H
 · intro m0 ih0 kx0
   rintro ⟨x0_0, x0_1⟩ ⟨⟩ Φ H
   rw [set_Count_L0]
   refine W.bs 5 [8] ?_ ?_
   · refine W.is 6 7 0 .i64 ?_ ?_
     · refine W.call 6 [] H (math_bits_OnesCount64_c _ _  (H.sub [] rfl)) ?_
       rintro x1 ⟨⟩ Φ - H
       exact W.to 8 (ih0 ((w (x0_0 + x1)), 1) () _ (H.sub [] rfl))
     refine W.is 0 7 1 .i64 ?_ ?_
     · refine W.call 6 [] H (math_bits_OnesCount64_c _ _  (H.sub [] rfl)) ?_
       rintro x2 ⟨⟩ Φ - H
       exact W.to 8 (ih0 ((w (x0_0 + x2)), 2) () _ (H.sub [] rfl))
     refine W.is 0 7 2 .i64 ?_ ?_
     · refine W.call 6 [] H (math_bits_OnesCount64_c _ _  (H.sub [] rfl)) ?_
       rintro x3 ⟨⟩ Φ - H
       exact W.to 8 (ih0 ((w (x0_0 + x3)), 3) () _ (H.sub [] rfl))
     refine W.is 0 7 3 .i64 ?_ ?_
     · refine W.call 6 [] H (math_bits_OnesCount64_c _ _  (H.sub [] rfl)) ?_
       rintro x4 ⟨⟩ Φ - H
       exact W.to 8 (ih0 ((w (x0_0 + x4)), 4) () _ (H.sub [] rfl))
     exact W.no
   · exact W.to 2 (kx0 x0_0 () _ (H.sub [] rfl))
def rx_kinds_4_p (a0 : TNode)  (r : Bool) : Post := tPost (fun t : Unit => .v (.bool r)) (fun t => []) (fun t => [])
theorem rx_kinds_4_c (n : Nat) (Φ : Phi) (a0 : TNode)  (H : Reps Φ []) : ∀ r, rx_kinds_4 n a0 = some r → CallG Try.prog 82 [.agg [.v (.int .i64 a0.Kind), .v (.int .u64 a0.Set.e0), .v (.int .u64 a0.Set.e1), .v (.int .u64 a0.Set.e2), .v (.int .u64 a0.Set.e3), .v (.int .i64 a0.Min), .v (.int .i64 a0.Max)]] [] Φ ((rx_kinds_4_p a0) r) := by
 refine CallG.W Try.func82 fun E G β0 => ?_
 rw [rx_kinds_4]
 refine W.eq 13 ((a0.Kind == a0.Kind) && (((a0.Set.e0 == a0.Set.e0) && ((a0.Set.e1 == a0.Set.e1) && ((a0.Set.e2 == a0.Set.e2) && ((a0.Set.e3 == a0.Set.e3) && true)))) && ((a0.Min == 0) && ((a0.Max == 0) && true)))) ?_
 refine W.bs 1 [9, 10] ?_ ?_
 · refine W.call 2 [] H (set_Count_c n _ _  (H.sub [] rfl)) ?_
   rintro x1 ⟨⟩ Φ - H
   exact W.ret 4 [] () [] H
 · exact W.ret 7 [] () [] H
def rx_repeats_p (a0 : TNode)  (r : Bool) : Post := tPost (fun t : Unit => .v (.bool r)) (fun t => []) (fun t => [])
theorem rx_repeats_c (Φ : Phi) (a0 : TNode)  (H : Reps Φ []) : ∀ r, rx_repeats a0 = some r → CallG Try.prog 85 [.agg [.v (.int .i64 a0.Kind), .v (.int .u64 a0.Set.e0), .v (.int .u64 a0.Set.e1), .v (.int .u64 a0.Set.e2), .v (.int .u64 a0.Set.e3), .v (.int .i64 a0.Min), .v (.int .i64 a0.Max)]] [] Φ ((rx_repeats_p a0) r) := by
 refine CallG.W Try.func85 fun E G β0 => ?_
 rw [rx_repeats]
 refine W.eq 15 ((a0.Kind == a0.Kind) && (((a0.Set.e0 == 0) && ((a0.Set.e1 == 0) && ((a0.Set.e2 == 0) && ((a0.Set.e3 == 0) && true)))) && ((a0.Min == a0.Min) && ((a0.Max == a0.Max) && true)))) ?_
 refine W.bs 6 [3, 12, 13, 14] ?_ ?_
 · refine W.bs 5 [17, 18, 19] ?_ ?_
   · refine W.bs 5 [22, 23, 24] ?_ ?_
     · refine W.bs 4 [27, 28] ?_ ?_
       · exact W.ret 14 [] () [] H
       · refine W.bs 6 [33, 34] ?_ ?_
         · exact W.ret 8 [] () [] H
         · exact W.ret 8 [] () [] H
     · exact W.ret 18 [] () [] H
   · exact W.ret 23 [] () [] H
 · exact W.ret 28 [] () [] H
def rx_known_p (a0 : TNode)  (r : Int × Bool) : Post := tPost (fun t : Option (Nat × Nat) => .tup [.agg [.v (.int .i64 r.1), .v (fo1 (t.map fun p => p.1)), .v (fo1 (t.map fun p => p.2))], .v (.bool r.2)]) (fun t => []) (fun t => [])
theorem rx_known_c (n : Nat) (Φ : Phi) (a0 : TNode)  (H : Reps Φ []) : ∀ r, rx_known n a0 = some r → CallG Try.prog 44 [.agg [.v (.int .i64 a0.Kind), .v (.int .u64 a0.Set.e0), .v (.int .u64 a0.Set.e1), .v (.int .u64 a0.Set.e2), .v (.int .u64 a0.Set.e3), .v (.int .i64 a0.Min), .v (.int .i64 a0.Max)]] [] Φ ((rx_known_p a0) r) := by
 refine CallG.W Try.func44 fun E G β0 => ?_
 rw [rx_known]
 refine W.bs 13 [7, 8] ?_ ?_
 · exact W.ret 12 [] none [] H
 · refine W.bs 5 [11, 12] ?_ ?_
   · exact W.ret 7 [] none [] H
   · refine W.fz 3 0 H (fun g1 Φ H => ?_)
     have H0 := H
     refine W.any2 3 0 4 ?_ ?_
     · refine W.call 0 [] H (rx_kinds_c _   (H.sub [] rfl)) ?_
       rintro x42 ⟨⟩ Φ - H
       refine W.is 1 16 0 .i64 ?_ ?_
       · refine W.fz 9 2 H (fun g282 Φ H => ?_)
         have H0 := H
         exact W.no
       refine W.is 0 16 1 .i64 ?_ ?_
       · refine W.fz 9 2 H (fun g282 Φ H => ?_)
         have H0 := H
         refine W.call 6 [] H (rx_plain_c _ _  (H.sub [] rfl)) ?_
         rintro x483 ⟨⟩ Φ - H
         exact W.ret 6 [] (some (81, 79)) [] H
       refine W.is 0 16 2 .i64 ?_ ?_
       · refine W.fz 9 2 H (fun g282 Φ H => ?_)
         have H0 := H
         refine W.call 6 [] H (rx_plain_c _ _  (H.sub [] rfl)) ?_
         rintro x483 ⟨⟩ Φ - H
         exact W.ret 6 [] (some (81, 78)) [] H
       refine W.is 0 16 3 .i64 ?_ ?_
       · refine W.fz 9 2 H (fun g282 Φ H => ?_)
         have H0 := H
         refine W.call 6 [] H (rx_kinds_4_c n _ _  (H.sub [] rfl)) ?_
         rintro x483 ⟨⟩ Φ - H
         exact W.ret 6 [] (some (82, 79)) [] H
       refine W.is 0 16 4 .i64 ?_ ?_
       · refine W.fz 9 2 H (fun g282 Φ H => ?_)
         have H0 := H
         refine W.call 6 [] H (rx_plain_c _ _  (H.sub [] rfl)) ?_
         rintro x483 ⟨⟩ Φ - H
         exact W.ret 6 [] (some (81, 83)) [] H
       refine W.is 0 16 5 .i64 ?_ ?_
       · refine W.fz 9 2 H (fun g282 Φ H => ?_)
         have H0 := H
         refine W.call 6 [] H (rx_plain_c _ _  (H.sub [] rfl)) ?_
         rintro x483 ⟨⟩ Φ - H
         exact W.ret 6 [] (some (81, 84)) [] H
       refine W.is 0 16 6 .i64 ?_ ?_
       · refine W.fz 9 2 H (fun g282 Φ H => ?_)
         have H0 := H
         refine W.call 6 [] H (rx_plain_c _ _  (H.sub [] rfl)) ?_
         rintro x483 ⟨⟩ Φ - H
         exact W.ret 6 [] (some (81, 78)) [] H
       refine W.is 0 16 7 .i64 ?_ ?_
       · refine W.fz 9 2 H (fun g282 Φ H => ?_)
         have H0 := H
         refine W.call 6 [] H (rx_plain_c _ _  (H.sub [] rfl)) ?_
         rintro x483 ⟨⟩ Φ - H
         exact W.ret 6 [] (some (81, 80)) [] H
       refine W.is 0 16 8 .i64 ?_ ?_
       · refine W.fz 9 2 H (fun g282 Φ H => ?_)
         have H0 := H
         refine W.call 6 [] H (rx_plain_c _ _  (H.sub [] rfl)) ?_
         rintro x483 ⟨⟩ Φ - H
         exact W.ret 6 [] (some (81, 78)) [] H
       refine W.is 0 16 9 .i64 ?_ ?_
       · refine W.fz 9 2 H (fun g282 Φ H => ?_)
         have H0 := H
         refine W.call 6 [] H (rx_repeats_c _ _  (H.sub [] rfl)) ?_
         rintro x483 ⟨⟩ Φ - H
         exact W.ret 6 [] (some (85, 86)) [] H
       exact W.no
     · skip
       refine W.call 3 [] H (rx_kinds_c _   (H.sub [] rfl)) ?_
       rintro x42 ⟨⟩ Φ - H
       refine W.is 1 16 0 .i64 ?_ ?_
       · refine W.fz 6 2 H (fun g282 Φ H => ?_)
         have H0 := H
         exact W.no
       refine W.is 0 16 1 .i64 ?_ ?_
       · refine W.fz 6 2 H (fun g282 Φ H => ?_)
         have H0 := H
         refine W.call 6 [] H (rx_plain_c _ _  (H.sub [] rfl)) ?_
         rintro x483 ⟨⟩ Φ - H
         exact W.ret 6 [] (some (81, 79)) [] H
       refine W.is 0 16 2 .i64 ?_ ?_
       · refine W.fz 6 2 H (fun g282 Φ H => ?_)
         have H0 := H
         refine W.call 6 [] H (rx_plain_c _ _  (H.sub [] rfl)) ?_
         rintro x483 ⟨⟩ Φ - H
         exact W.ret 6 [] (some (81, 78)) [] H
       refine W.is 0 16 3 .i64 ?_ ?_
       · refine W.fz 6 2 H (fun g282 Φ H => ?_)
         have H0 := H
         refine W.call 6 [] H (rx_kinds_4_c n _ _  (H.sub [] rfl)) ?_
         rintro x483 ⟨⟩ Φ - H
         exact W.ret 6 [] (some (82, 79)) [] H
       refine W.is 0 16 4 .i64 ?_ ?_
       · refine W.fz 6 2 H (fun g282 Φ H => ?_)
         have H0 := H
         refine W.call 6 [] H (rx_plain_c _ _  (H.sub [] rfl)) ?_
         rintro x483 ⟨⟩ Φ - H
         exact W.ret 6 [] (some (81, 83)) [] H
       refine W.is 0 16 5 .i64 ?_ ?_
       · refine W.fz 6 2 H (fun g282 Φ H => ?_)
         have H0 := H
         refine W.call 6 [] H (rx_plain_c _ _  (H.sub [] rfl)) ?_
         rintro x483 ⟨⟩ Φ - H
         exact W.ret 6 [] (some (81, 84)) [] H
       refine W.is 0 16 6 .i64 ?_ ?_
       · refine W.fz 6 2 H (fun g282 Φ H => ?_)
         have H0 := H
         refine W.call 6 [] H (rx_plain_c _ _  (H.sub [] rfl)) ?_
         rintro x483 ⟨⟩ Φ - H
         exact W.ret 6 [] (some (81, 78)) [] H
       refine W.is 0 16 7 .i64 ?_ ?_
       · refine W.fz 6 2 H (fun g282 Φ H => ?_)
         have H0 := H
         refine W.call 6 [] H (rx_plain_c _ _  (H.sub [] rfl)) ?_
         rintro x483 ⟨⟩ Φ - H
         exact W.ret 6 [] (some (81, 80)) [] H
       refine W.is 0 16 8 .i64 ?_ ?_
       · refine W.fz 6 2 H (fun g282 Φ H => ?_)
         have H0 := H
         refine W.call 6 [] H (rx_plain_c _ _  (H.sub [] rfl)) ?_
         rintro x483 ⟨⟩ Φ - H
         exact W.ret 6 [] (some (81, 78)) [] H
       refine W.is 0 16 9 .i64 ?_ ?_
       · refine W.fz 6 2 H (fun g282 Φ H => ?_)
         have H0 := H
         refine W.call 6 [] H (rx_repeats_c _ _  (H.sub [] rfl)) ?_
         rintro x483 ⟨⟩ Φ - H
         exact W.ret 6 [] (some (85, 86)) [] H
       exact W.no
def rx_Check_p (a0 : (List TNode)) (A1 : Option Addr) (c2 : Nat) (r : Int × Int) : Post := tPost (fun t : Unit => .tup [.v (.int .i64 r.1), .v (.int .i64 r.2)]) (fun t => []) (fun t => [])
theorem rx_Check_c (n : Nat) (Φ : Phi) (a0 : (List TNode)) (A1 : Option Addr) (c2 : Nat) (H : Reps Φ [.d (.row 7 a0.length (a0.map TNode.d)) (.slice A1 a0.length c2)]) : ∀ r, rx_Check n a0 = some r → CallG Try.prog 21 [.v (.slice A1 a0.length c2)] [] Φ ((rx_Check_p a0 A1 c2) r) := by
 refine CallG.W Try.func21 fun E G β0 => ?_
 rw [rx_Check]
 refine W.lp 18 0 (fun m st => rx_Check_L0 n a0 m st) (fun (st : Int × Int) (t : Unit) => ⟨fr 40 [(0, .v (.slice A1 a0.length c2)), (4, .v (.int .i64 st.1)), (9, .v (.slice A1 a0.length c2)), (10, .v (.int .i64 (a0.length : Int))), (11, .v (.int .i64 st.2))], []⟩) (fun (st : Int × Int) (t : Unit) => [.d (.row 7 a0.length (a0.map TNode.d)) (.slice A1 a0.length c2)]) (fun (st : Int) (t : Unit) => ⟨fr 40 [(0, .v (.slice A1 a0.length c2)), (4, .v (.int .i64 st))], []⟩) (fun (st : Int) (t : Unit) => [.d (.row 7 a0.length (a0.map TNode.d)) (.slice A1 a0.length c2)]) () (H.sub [0] rfl) (fun _ => rfl) ?_ ?_
 · rintro o0 ⟨⟩ Φ H
   refine W.bs 6 [37] ?_ ?_
   · exact W.ret 8 [] () [] H
   · exact W.ret 7 [] () [] H
 · intro m0 ih0 kx0
   rintro ⟨x0_0, x0_1⟩ ⟨⟩ Φ H
   rw [rx_Check_L0]
   refine W.bs 5 [12] ?_ ?_
   · refine W.ix 7 0 .i64 H (fun e3 v4 H => ?_)
     refine W.ld 0 0 [] H ?_
     intro H
     refine W.call 7 [] H (rx_known_c n _ _  (H.sub [] rfl)) ?_
     rintro x5 (none | ⟨v7, v8⟩) Φ - H
     · refine W.bs 13 [22, 23] ?_ ?_
       · exact W.rt <| W.ret 13 [] () [] H
       · refine W.bs 6 [27, 28] ?_ ?_
         · exact W.rt <| W.ret 7 [] () [] H
         · exact W.to 15 (ih0 ((w (x0_0 - (w (x5.1 - 1)))), (w (x0_1 + 1))) () _ (H.sub [1] rfl))
     · skip
       refine W.bs 13 [22, 23] ?_ ?_
       · exact W.rt <| W.ret 13 [] () [] H
       · refine W.bs 6 [27, 28] ?_ ?_
         · exact W.rt <| W.ret 7 [] () [] H
         · exact W.to 15 (ih0 ((w (x0_0 - (w (x5.1 - 1)))), (w (x0_1 + 1))) () _ (H.sub [1] rfl))
   · exact W.to 2 (kx0 x0_0 () _ (H.sub [0] rfl))
def rx_need_p (a0 : Bool) (a1 : Int)  (r : Unit) : Post := tPost (fun t : Unit => .tup []) (fun t => []) (fun t => [])
theorem rx_need_c (Φ : Phi) (a0 : Bool) (a1 : Int)  (H : Reps Φ []) : ∀ r, rx_need a0 a1 = some r → CallG Try.prog 45 [.v (.bool a0), .v (.int .i64 a1)] [] Φ ((ePost 33 0 (rx_need_p a0 a1)) r) := by
 refine CallG.W Try.func45 fun E G β0 => ?_
 have hP := PanK.body (Γ := ⟨Try.prog, E, G, Φ, β0, 0, [], none⟩) (fn := Try.f45) (T := 33) (p := rx_need_p a0 a1) rfl
 rw [rx_need]
 refine W.bs 5 [5] ?_ ?_
 · exact W.panic 4 hP
 · exact W.ret 2 [] () [] H
def rx_of_p (a0 : (List TNode)) (A1 : Option Addr) (c2 : Nat) (r : (List TNode)) : Post := tPost (fun t : Option Addr × Nat => .p 0 0) (fun t => [.c [.v (.slice t.1 r.length t.2)] 71]) (fun t => [.d (.row 7 r.length (r.map TNode.d)) (.slice t.1 r.length t.2)])
theorem rx_of_c (n : Nat) (Φ : Phi) (a0 : (List TNode)) (A1 : Option Addr) (c2 : Nat) (H : Reps Φ [.d (.row 7 a0.length (a0.map TNode.d)) (.slice A1 a0.length c2)]) : ∀ r, rx_of n a0 = some r → CallG Try.prog 43 [.v (.slice A1 a0.length c2)] [] Φ ((ePost 33 0 (rx_of_p a0 A1 c2)) r) := by
 refine CallG.W Try.func43 fun E G β0 => ?_
 have hP := PanK.body (Γ := ⟨Try.prog, E, G, Φ, β0, 0, [], none⟩) (fn := Try.f43) (T := 33) (p := rx_of_p a0 A1 c2) rfl
 rw [rx_of]
 refine W.call 7 [] H (rx_Check_c n _ _ A1 c2 (H.sub [0] rfl)) ?_
 rintro x3 ⟨⟩ Φ - H
 refine W.callE 10 [] hP H (rx_need_c _ _ _  (H.sub [] rfl)) ?_
 rintro x4 ⟨⟩ Φ - H
 exact W.ret 8 [0] (A1, c2) [0] H
def rx_Join_1_p (a0 : (List (List TNode))) (a1 : TNode) (b0 : Nat) (A1 : Option Addr) (c2 : Nat) (b1 : Nat) (r : (List TNode)) : Post := tPost (fun t : Option Addr × Nat × List Value => .v (.slice t.1 r.length t.2.1)) (fun t => [.f b0 [.slice A1 a0.length c2] 27, .f b1 [.int .i64 a1.Kind, .int .u64 a1.Set.e0, .int .u64 a1.Set.e1, .int .u64 a1.Set.e2, .int .u64 a1.Set.e3, .int .i64 a1.Min, .int .i64 a1.Max] 26, .o (.slice t.1 r.length t.2.1) r.length t.2.2 26 7]) (fun t => [.r 7 (r.map TNode.d) t.2.2])
theorem rx_Join_1_c (n : Nat) (Φ : Phi) (a0 : (List (List TNode))) (a1 : TNode) (b0 : Nat) (A1 : Option Addr) (c2 : Nat) (b1 : Nat) (H : Reps Φ [.d (.row 1 a0.length (a0.map dL_TNode_d)) (.slice A1 a0.length c2)]) : ∀ r, rx_Join_1 n a0 a1 = some r → CallG Try.prog 42 [.p 0 0, .p 1 0] [.f b0 [.slice A1 a0.length c2] 27, .f b1 [.int .i64 a1.Kind, .int .u64 a1.Set.e0, .int .u64 a1.Set.e1, .int .u64 a1.Set.e2, .int .u64 a1.Set.e3, .int .i64 a1.Min, .int .i64 a1.Max] 26] Φ ((ePost 33 2 (rx_Join_1_p a0 a1 b0 A1 c2 b1)) r) := by
 refine CallG.W Try.func42 fun E G β0 => ?_
 have hP := PanK.body (Γ := ⟨Try.prog, E, G, Φ, β0, 2, [], none⟩) (fn := Try.f42) (T := 33) (p := rx_Join_1_p a0 a1 b0 A1 c2 b1) rfl
 rw [rx_Join_1]
 refine W.nl 17 26 7 ?_
 replace H := Reps.nilR (enc := TNode.d) (sz := 7) H
 refine W.lp 0 0 (fun m st => rx_Join_1_L0 n a0 m st) (fun (st : (List TNode) × Int) (t : Option Addr × Nat × List Value) => ⟨fr 40 [(0, .p 0 0), (1, .p 1 0), (3, .v (.slice t.1 st.1.length t.2.1)), (8, .v (.slice A1 a0.length c2)), (9, .v (.int .i64 (a0.length : Int))), (10, .v (.int .i64 st.2))], [.f b0 [.slice A1 a0.length c2] 27, .f b1 [.int .i64 a1.Kind, .int .u64 a1.Set.e0, .int .u64 a1.Set.e1, .int .u64 a1.Set.e2, .int .u64 a1.Set.e3, .int .i64 a1.Min, .int .i64 a1.Max] 26, .o (.slice t.1 st.1.length t.2.1) st.1.length t.2.2 26 7]⟩) (fun (st : (List TNode) × Int) (t : Option Addr × Nat × List Value) => [.r 7 (st.1.map TNode.d) t.2.2, .d (.row 1 a0.length (a0.map dL_TNode_d)) (.slice A1 a0.length c2)]) (fun (st : (List TNode)) (t : Option Addr × Nat × List Value) => ⟨fr 40 [(0, .p 0 0), (1, .p 1 0), (3, .v (.slice t.1 st.length t.2.1))], [.f b0 [.slice A1 a0.length c2] 27, .f b1 [.int .i64 a1.Kind, .int .u64 a1.Set.e0, .int .u64 a1.Set.e1, .int .u64 a1.Set.e2, .int .u64 a1.Set.e3, .int .i64 a1.Min, .int .i64 a1.Max] 26, .o (.slice t.1 st.length t.2.1) st.length t.2.2 26 7]⟩) (fun (st : (List TNode)) (t : Option Addr × Nat × List Value) => [.r 7 (st.map TNode.d) t.2.2, .d (.row 1 a0.length (a0.map dL_TNode_d)) (.slice A1 a0.length c2)]) (none, 0, _) (H.sub [0, 1] rfl) (fun _ => rfl) ?_ ?_
 · rintro o0 ⟨y0_0, y0_1, y0_2⟩ Φ H
   refine W.call 3 [] H (rx_known_c n _ _  (H.sub [] rfl)) ?_
   rintro x14 (none | ⟨v16, v17⟩) Φ - H
   · refine W.bs 11 [7, 26, 27, 28] ?_ ?_
     · refine W.callE 6 [] hP H (rx_need_c _ _ _  (H.sub [] rfl)) ?_
       rintro x18 ⟨⟩ Φ - H
       refine W.row 6 4 TNode.d [a1] [[]] 7 H (fun g19 H => ?_)
       refine W.apO (V := .slice y0_0 o0.length y0_1) (t := 26) (B' := (some (⟨g19, 0, none⟩ : Addr))) (n := 1) (C' := 1) 0 2 4 1 0 H (fun l20 A21 c22 u23 H => ?_)
       exact W.ret 2 [0, 1, 2] (A21, c22, _) [0] H
     · refine W.callE 6 [] hP H (rx_need_c _ _ _  (H.sub [] rfl)) ?_
       rintro x24 ⟨⟩ Φ - H
       refine W.row 6 4 TNode.d [a1] [[]] 7 H (fun g25 H => ?_)
       refine W.apO (V := .slice y0_0 o0.length y0_1) (t := 26) (B' := (some (⟨g25, 0, none⟩ : Addr))) (n := 1) (C' := 1) 0 2 4 1 0 H (fun l26 A27 c28 u29 H => ?_)
       exact W.ret 2 [0, 1, 2] (A27, c28, _) [0] H
   · skip
     refine W.bs 11 [7, 26, 27, 28] ?_ ?_
     · refine W.callE 6 [] hP H (rx_need_c _ _ _  (H.sub [] rfl)) ?_
       rintro x18 ⟨⟩ Φ - H
       refine W.row 6 4 TNode.d [a1] [[]] 7 H (fun g19 H => ?_)
       refine W.apO (V := .slice y0_0 o0.length y0_1) (t := 26) (B' := (some (⟨g19, 0, none⟩ : Addr))) (n := 1) (C' := 1) 0 2 4 1 0 H (fun l20 A21 c22 u23 H => ?_)
       exact W.ret 2 [0, 1, 2] (A21, c22, _) [0] H
     · refine W.callE 6 [] hP H (rx_need_c _ _ _  (H.sub [] rfl)) ?_
       rintro x24 ⟨⟩ Φ - H
       refine W.row 6 4 TNode.d [a1] [[]] 7 H (fun g25 H => ?_)
       refine W.apO (V := .slice y0_0 o0.length y0_1) (t := 26) (B' := (some (⟨g25, 0, none⟩ : Addr))) (n := 1) (C' := 1) 0 2 4 1 0 H (fun l26 A27 c28 u29 H => ?_)
       exact W.ret 2 [0, 1, 2] (A27, c28, _) [0] H
 · intro m0 ih0 kx0
   rintro ⟨x0_0, x0_1⟩ ⟨t0_0, t0_1, t0_2⟩ Φ H
   rw [rx_Join_1_L0]
   refine W.bs 5 [11] ?_ ?_
   · refine W.ix 6 1 .i64 H (fun e3 v4 H => ?_)
     refine W.ld 0 0 [true] H ?_
     intro A5 c6 H
     refine W.callE 5 [] hP.l1 H (rx_of_c n _ _ A5 c6 (H.sub [0] rfl)) ?_
     rintro x7 ⟨A8, c9⟩ Φ - H
     refine W.apD (V := .slice t0_0 x0_0.length t0_1) (t := 26) 3 2 3 0 H (fun l10 A11 c12 u13 H => ?_)
     exact W.to 7 (ih0 (l10, (w (x0_1 + 1))) (A11, c12, _) _ (H.sub [0, 5] rfl))
   · exact W.to 2 (kx0 x0_0 (t0_0, t0_1, _) _ (H.sub [0, 1] rfl))
def rx_tries_Rx_p (a0 : (List (List TNode))) (a1 : TNode) (b0 : Nat) (A1 : Option Addr) (c2 : Nat) (b1 : Nat) (r : (List TNode) × Int) : Post := tPost (fun t : Option Addr × Nat × List Value => .tup [.v (.slice t.1 r.1.length t.2.1), .v (.int .i64 r.2)]) (fun t => [.f b0 [.slice A1 a0.length c2] 27, .f b1 [.int .i64 a1.Kind, .int .u64 a1.Set.e0, .int .u64 a1.Set.e1, .int .u64 a1.Set.e2, .int .u64 a1.Set.e3, .int .i64 a1.Min, .int .i64 a1.Max] 26, .o (.slice t.1 r.1.length t.2.1) r.1.length t.2.2 26 7]) (fun t => [.r 7 (r.1.map TNode.d) t.2.2])
theorem rx_tries_Rx_c (n : Nat) (Φ0 : Phi) (a0 : (List (List TNode))) (a1 : TNode) (b0 : Nat) (A1 : Option Addr) (c2 : Nat) (b1 : Nat) (H : Reps Φ0 [.d (.row 1 a0.length (a0.map dL_TNode_d)) (.slice A1 a0.length c2)]) : ∀ r, rx_tries_Rx n a0 a1 = some r → CallG Try.prog 41 [.fn (.func 42) [.p 0 0, .p 1 0]] [.f b0 [.slice A1 a0.length c2] 27, .f b1 [.int .i64 a1.Kind, .int .u64 a1.Set.e0, .int .u64 a1.Set.e1, .int .u64 a1.Set.e2, .int .u64 a1.Set.e3, .int .i64 a1.Min, .int .i64 a1.Max] 26] Φ0 ((rx_tries_Rx_p a0 a1 b0 A1 c2 b1) r) := by
 refine CallG.WN Try.func41 fun E G β0 => ?_
 rw [rx_tries_Rx]
 refine WN.unf 0 0 ?_
 refine WN.unf 0 1 ?_
 replace H := Reps.le0 H
 refine WN.tr 8 2 1 1 [.slice none 0 0] (fun g3 => ?_)
 refine WN.tr 0 3 1 1 [.int .i64 0] (fun g4 => ?_)
 refine WN.defer 0 72 #[.pointer (some ⟨g3, 0, none⟩), .pointer (some ⟨g4, 0, none⟩)] ?_
 have hz5 : PhiLe 0 Φ0 _ := H.lez 0
 refine WN.nl 4 26 7 ?_
 replace H := Reps.nilR (enc := TNode.d) (sz := 7) H
 refine WN.callD 0 [0, 1] H (rx_Join_1_c n _ _ _ b0 A1 c2 b1 (H.sub [2] rfl)) ?_ ?_
 · rintro x6 ⟨A7, c8, u9⟩ Φ - H
   refine WN.sto 0 2 ?_
   refine WN.sto 0 3 ?_
   refine WN.retD 1 72 #[.pointer (some ⟨g3, 0, none⟩), .pointer (some ⟨g4, 0, none⟩)] Try.func72 (fun E2 G2 β2 => ?_)
   refine W.nn 3 false ?_
   exact W.endD 3 2 3 [0, 1, 5] (A7, c8, _) [0] H
 · intro e10 Φ H r hr
   cases hr
   refine WN.panD 0 72 #[.pointer (some ⟨g3, 0, none⟩), .pointer (some ⟨g4, 0, none⟩)] Try.func72 (fun E2 G2 β2 => ?_)
   refine W.ta 9 (.int .i64 e10) ?_
   refine W.sto 21 2 ?_
   refine W.sto 0 3 ?_
   exact W.endD 1 2 3 [0, 1, 4] (none, 0, _) [0] H
def rx_Join_p (a0 : TNode) (a1 : (List (List TNode))) (A1 : Option Addr) (c2 : Nat) (r : (List TNode) × Int) : Post := tPost (fun t : Option Addr × Nat × List Value => .tup [.v (.slice t.1 r.1.length t.2.1), .v (.int .i64 r.2)]) (fun t => [.o (.slice t.1 r.1.length t.2.1) r.1.length t.2.2 26 7]) (fun t => [.r 7 (r.1.map TNode.d) t.2.2])
theorem rx_Join_c (n : Nat) (Φ : Phi) (a0 : TNode) (a1 : (List (List TNode))) (A1 : Option Addr) (c2 : Nat) (H : Reps Φ [.d (.row 1 a1.length (a1.map dL_TNode_d)) (.slice A1 a1.length c2)]) : ∀ r, rx_Join n a0 a1 = some r → CallG Try.prog 12 [.agg [.v (.int .i64 a0.Kind), .v (.int .u64 a0.Set.e0), .v (.int .u64 a0.Set.e1), .v (.int .u64 a0.Set.e2), .v (.int .u64 a0.Set.e3), .v (.int .i64 a0.Min), .v (.int .i64 a0.Max)], .v (.slice A1 a1.length c2)] [] Φ ((rx_Join_p a0 a1 A1 c2) r) := by
 refine CallG.W Try.func12 fun E G β0 => ?_
 rw [rx_Join]
 refine W.fz 10 1 H (fun g3 Φ H => ?_)
 refine W.fz 0 0 H (fun g4 Φ H => ?_)
 refine W.call 0 [1, 0] H (rx_tries_Rx_c n _ _ _ g3 A1 c2 g4 (H.sub [0] rfl)) ?_
 rintro x5 ⟨A6, c7, u8⟩ Φ - H
 exact W.ret 5 [2] (A6, c7, _) [0] H
def rx_Depth_1_p (a0 : TNode) (a1 : (List Int)) (A1 : Option Addr) (c2 : Nat) (r : Int) : Post := tPost (fun t : Unit => .v (.int .i64 r)) (fun t => []) (fun t => [])
theorem rx_Depth_1_c (n : Nat) (Φ : Phi) (a0 : TNode) (a1 : (List Int)) (A1 : Option Addr) (c2 : Nat) (H : Reps Φ [.d (.row 1 a1.length (a1.map (dI .i64))) (.slice A1 a1.length c2)]) : ∀ r, rx_Depth_1 n a0 a1 = some r → CallG Try.prog 50 [.agg [.v (.int .i64 a0.Kind), .v (.int .u64 a0.Set.e0), .v (.int .u64 a0.Set.e1), .v (.int .u64 a0.Set.e2), .v (.int .u64 a0.Set.e3), .v (.int .i64 a0.Min), .v (.int .i64 a0.Max)], .v (.slice A1 a1.length c2)] [] Φ ((rx_Depth_1_p a0 a1 A1 c2) r) := by
 refine CallG.W Try.func50 fun E G β0 => ?_
 rw [rx_Depth_1]
 refine W.lp 18 0 (fun m st => rx_Depth_1_L0 n a1 m st) (fun (st : Int × Int) (t : Unit) => ⟨fr 20 [(5, .v (.int .i64 st.1)), (8, .v (.slice A1 a1.length c2)), (9, .v (.int .i64 (a1.length : Int))), (10, .v (.int .i64 st.2))], []⟩) (fun (st : Int × Int) (t : Unit) => [.d (.row 1 a1.length (a1.map (dI .i64))) (.slice A1 a1.length c2)]) (fun (st : Int) (t : Unit) => ⟨fr 20 [(5, .v (.int .i64 st))], []⟩) (fun (st : Int) (t : Unit) => []) () (H.sub [0] rfl) (fun _ => rfl) ?_ ?_
 · rintro o0 ⟨⟩ Φ H
   exact W.ret 6 [] () [] H
 · intro m0 ih0 kx0
   rintro ⟨x0_0, x0_1⟩ ⟨⟩ Φ H
   rw [rx_Depth_1_L0]
   refine W.bs 5 [11] ?_ ?_
   · refine W.ix 6 0 .i64 H (fun e3 v4 H => ?_)
     refine W.ld 0 0 [] H ?_
     intro H
     refine W.mm 5 false .i64 x0_0 e3 ?_
     exact W.to 7 (ih0 ((mx x0_0 e3), (w (x0_1 + 1))) () _ (H.sub [1] rfl))
   · exact W.to 2 (kx0 x0_0 () _ (H.sub [] rfl))
def rx_folded_int__1_p (a0 : (List TNode)) (b0 : Nat) (A1 : Option Addr) (c2 : Nat) (b1 : Nat) (r : Int) : Post := tPost (fun t : Unit => .v (.int .i64 r)) (fun t => [.f b0 [.slice A1 a0.length c2] 30, .f b1 [.func (.func 50) #[] #[]] 83]) (fun t => [])
theorem rx_folded_int__1_c (n : Nat) (Φ : Phi) (a0 : (List TNode)) (b0 : Nat) (A1 : Option Addr) (c2 : Nat) (b1 : Nat) (H : Reps Φ [.d (.row 7 a0.length (a0.map TNode.d)) (.slice A1 a0.length c2)]) : ∀ r, rx_folded_int__1 n a0 = some r → CallG Try.prog 75 [.p 0 0, .p 1 0] [.f b0 [.slice A1 a0.length c2] 30, .f b1 [.func (.func 50) #[] #[]] 83] Φ ((ePost 33 2 (rx_folded_int__1_p a0 b0 A1 c2 b1)) r) := by
 refine CallG.W Try.func75 fun E G β0 => ?_
 have hP := PanK.body (Γ := ⟨Try.prog, E, G, Φ, β0, 2, [], none⟩) (fn := Try.f75) (T := 33) (p := rx_folded_int__1_p a0 b0 A1 c2 b1) rfl
 rw [rx_folded_int__1]
 refine W.callE 12 [] hP H (rx_of_c n _ _ A1 c2 (H.sub [0] rfl)) ?_
 rintro x3 ⟨A4, c5⟩ Φ - H
 refine W.nl 8 3 1 ?_
 replace H := Reps.nilR (enc := (dI .i64)) (sz := 1) H
 refine W.lp 0 0 (fun m st => rx_folded_int__1_L0 n x3 m st) (fun (st : (List Int) × Int) (t : Option Addr × Nat × List Value) => ⟨fr 46 [(1, .p 1 0), (3, .v (.slice t.1 st.1.length t.2.1)), (14, .v (.slice A4 x3.length c5)), (15, .v (.int .i64 (x3.length : Int))), (16, .v (.int .i64 st.2))], [.f b0 [.slice A1 a0.length c2] 30, .f b1 [.func (.func 50) #[] #[]] 83, .dead, .o (.slice t.1 st.1.length t.2.1) st.1.length t.2.2 3 1]⟩) (fun (st : (List Int) × Int) (t : Option Addr × Nat × List Value) => [.r 1 (st.1.map (dI .i64)) t.2.2, .d (.row 7 x3.length (x3.map TNode.d)) (.slice A4 x3.length c5), .d (.row 7 a0.length (a0.map TNode.d)) (.slice A1 a0.length c2)]) (fun (st : (List Int)) (t : Option Addr × Nat × List Value) => ⟨fr 46 [(3, .v (.slice t.1 st.length t.2.1))], [.f b0 [.slice A1 a0.length c2] 30, .f b1 [.func (.func 50) #[] #[]] 83, .dead, .o (.slice t.1 st.length t.2.1) st.length t.2.2 3 1]⟩) (fun (st : (List Int)) (t : Option Addr × Nat × List Value) => [.r 1 (st.map (dI .i64)) t.2.2, .d (.row 7 a0.length (a0.map TNode.d)) (.slice A1 a0.length c2)]) (none, 0, _) (H.sub [0, 1, 2] rfl) (fun _ => rfl) ?_ ?_
 · rintro o0 ⟨y0_0, y0_1, y0_2⟩ Φ H
   refine W.rdo 3 3 0 .i64 [] (B := y0_0) (n := o0.length) (c := y0_1) (t := 3) H ?_
   intro e341 v342 H
   exact W.ret 2 [0, 1] () [] H
 · intro m0 ih0 kx0
   rintro ⟨x0_0, x0_1⟩ ⟨t0_0, t0_1, t0_2⟩ Φ H
   rw [rx_folded_int__1_L0]
   refine W.bs 5 [17] ?_ ?_
   · refine W.ix 6 1 .i64 H (fun e6 v7 H => ?_)
     refine W.ld 0 0 [] H ?_
     intro H
     refine W.call 6 [] H (rx_known_c n _ _  (H.sub [] rfl)) ?_
     rintro x8 (none | ⟨v10, v11⟩) Φ - H
     · refine W.fz 17 4 H (fun g12 Φ H => ?_)
       refine W.fz 0 5 H (fun g13 Φ H => ?_)
       have H0 := H
       refine W.als (B := t0_0) (c := t0_1) (t := 3) 6 3 1 H (fun l214 A215 c216 H => ?_)
       refine W.callT 2 [(0, 3)] H (fun Φ H => rx_Depth_1_c n _ _ _ A215 c216 (H.sub [0] rfl)) ?_ ⟨⟨_, x0_0.length, t0_1, _, 3, 1, _, _, _, _, _, by kernel_rfl, rfl⟩, trivial⟩ (fun _ _ _ h => h)
       rintro x254 ⟨⟩ - H
       refine W.osl (B := t0_0) (c := t0_1) (t := 3) 6 3 2 H (fun l334 u335 H => ?_)
       refine W.row 2 6 (dI .i64) [x254] [[]] 1 H (fun g336 H => ?_)
       refine W.apO (V := .slice t0_0 l334.length t0_1) (t := 3) (B' := (some (⟨g336, 0, none⟩ : Addr))) (n := 1) (C' := 1) 0 3 6 1 0 H (fun l337 A338 c339 u340 H => ?_)
       exact W.to 7 (ih0 (l337, (w (x0_1 + 1))) (A338, c339, _) _ (H.sub [0, 6, 7] rfl))
     · skip
       refine W.fz 17 4 H (fun g12 Φ H => ?_)
       refine W.fz 0 5 H (fun g13 Φ H => ?_)
       have H0 := H
       refine W.als (B := t0_0) (c := t0_1) (t := 3) 6 3 1 H (fun l214 A215 c216 H => ?_)
       refine W.callT 2 [(0, 3)] H (fun Φ H => rx_Depth_1_c n _ _ _ A215 c216 (H.sub [0] rfl)) ?_ ⟨⟨_, x0_0.length, t0_1, _, 3, 1, _, _, _, _, _, by kernel_rfl, rfl⟩, trivial⟩ (fun _ _ _ h => h)
       rintro x254 ⟨⟩ - H
       refine W.osl (B := t0_0) (c := t0_1) (t := 3) 6 3 2 H (fun l334 u335 H => ?_)
       refine W.row 2 6 (dI .i64) [x254] [[]] 1 H (fun g336 H => ?_)
       refine W.apO (V := .slice t0_0 l334.length t0_1) (t := 3) (B' := (some (⟨g336, 0, none⟩ : Addr))) (n := 1) (C' := 1) 0 3 6 1 0 H (fun l337 A338 c339 u340 H => ?_)
       exact W.to 7 (ih0 (l337, (w (x0_1 + 1))) (A338, c339, _) _ (H.sub [0, 6, 7] rfl))
   · exact W.to 2 (kx0 x0_0 (t0_0, t0_1, _) _ (H.sub [0, 2] rfl))
def rx_tries_int_p (a0 : (List TNode)) (b0 : Nat) (A1 : Option Addr) (c2 : Nat) (b1 : Nat) (r : Int × Int) : Post := tPost (fun t : Unit => .tup [.v (.int .i64 r.1), .v (.int .i64 r.2)]) (fun t => [.f b0 [.slice A1 a0.length c2] 30, .f b1 [.func (.func 50) #[] #[]] 83]) (fun t => [])
theorem rx_tries_int_c (n : Nat) (Φ : Phi) (a0 : (List TNode)) (b0 : Nat) (A1 : Option Addr) (c2 : Nat) (b1 : Nat) (H : Reps Φ [.d (.row 7 a0.length (a0.map TNode.d)) (.slice A1 a0.length c2)]) : ∀ r, rx_tries_int n a0 = some r → CallG Try.prog 66 [.fn (.func 75) [.p 0 0, .p 1 0]] [.f b0 [.slice A1 a0.length c2] 30, .f b1 [.func (.func 50) #[] #[]] 83] Φ ((rx_tries_int_p a0 b0 A1 c2 b1) r) := by
 refine CallG.WN Try.func66 fun E G β0 => ?_
 rw [rx_tries_int]
 refine WN.unf 0 0 ?_
 refine WN.unf 0 1 ?_
 refine WN.tr 8 2 1 1 [.int .i64 0] (fun g3 => ?_)
 refine WN.tr 0 3 1 1 [.int .i64 0] (fun g4 => ?_)
 refine WN.defer 0 90 #[.pointer (some ⟨g3, 0, none⟩), .pointer (some ⟨g4, 0, none⟩)] ?_
 refine WN.callD 4 [0, 1] H (rx_folded_int__1_c n _ _ b0 A1 c2 b1 (H.sub [0] rfl)) ?_ ?_
 · rintro x5 ⟨⟩ Φ - H
   refine WN.sto 0 2 ?_
   refine WN.sto 0 3 ?_
   refine WN.retD 1 90 #[.pointer (some ⟨g3, 0, none⟩), .pointer (some ⟨g4, 0, none⟩)] Try.func90 (fun E2 G2 β2 => ?_)
   refine W.nn 3 false ?_
   exact W.endD 3 2 3 [0, 1] () [] H
 · intro e6 Φ H r hr
   cases hr
   refine WN.panD 4 90 #[.pointer (some ⟨g3, 0, none⟩), .pointer (some ⟨g4, 0, none⟩)] Try.func90 (fun E2 G2 β2 => ?_)
   refine W.ta 9 (.int .i64 e6) ?_
   refine W.sto 21 2 ?_
   refine W.sto 0 3 ?_
   exact W.endD 1 2 3 [0, 1] () [] H
def rx_folded_int_p (a0 : (List TNode)) (A1 : Option Addr) (c2 : Nat) (r : Int × Int) : Post := tPost (fun t : Unit => .tup [.v (.int .i64 r.1), .v (.int .i64 r.2)]) (fun t => []) (fun t => [])
theorem rx_folded_int_c (n : Nat) (Φ : Phi) (a0 : (List TNode)) (A1 : Option Addr) (c2 : Nat) (H : Reps Φ [.d (.row 7 a0.length (a0.map TNode.d)) (.slice A1 a0.length c2)]) : ∀ r, rx_folded_int n a0 = some r → CallG Try.prog 49 [.v (.slice A1 a0.length c2), .v (.func (.func 50) #[] #[])] [] Φ ((rx_folded_int_p a0 A1 c2) r) := by
 refine CallG.W Try.func49 fun E G β0 => ?_
 rw [rx_folded_int]
 refine W.fz 10 0 H (fun g3 Φ H => ?_)
 refine W.fz 0 1 H (fun g4 Φ H => ?_)
 refine W.call 0 [0, 1] H (rx_tries_int_c n _ _ g3 A1 c2 g4 (H.sub [0] rfl)) ?_
 rintro x5 ⟨⟩ Φ - H
 exact W.ret 5 [] () [] H
def rx_Depth_p (a0 : (List TNode)) (A1 : Option Addr) (c2 : Nat) (r : Int × Int) : Post := tPost (fun t : Unit => .tup [.v (.int .i64 r.1), .v (.int .i64 r.2)]) (fun t => []) (fun t => [])
theorem rx_Depth_c (n : Nat) (Φ : Phi) (a0 : (List TNode)) (A1 : Option Addr) (c2 : Nat) (H : Reps Φ [.d (.row 7 a0.length (a0.map TNode.d)) (.slice A1 a0.length c2)]) : ∀ r, rx_Depth n a0 = some r → CallG Try.prog 18 [.v (.slice A1 a0.length c2)] [] Φ ((rx_Depth_p a0 A1 c2) r) := by
 refine CallG.W Try.func18 fun E G β0 => ?_
 rw [rx_Depth]
 refine W.call 8 [] H (rx_folded_int_c n _ _ A1 c2 (H.sub [0] rfl)) ?_
 rintro x3 ⟨⟩ Φ - H
 exact W.ret 5 [] () [] H
def rx_kinds_2_p (a0 : TNode) (a1 : (List Bool)) (A1 : Option Addr) (c2 : Nat) (r : Bool) : Post := tPost (fun t : Unit => .v (.bool r)) (fun t => []) (fun t => [])
theorem rx_kinds_2_c (Φ : Phi) (a0 : TNode) (a1 : (List Bool)) (A1 : Option Addr) (c2 : Nat) (H : Reps Φ [.d (.row 1 a1.length (a1.map dB)) (.slice A1 a1.length c2)]) : ∀ r, rx_kinds_2 a0 a1 = some r → CallG Try.prog 79 [.agg [.v (.int .i64 a0.Kind), .v (.int .u64 a0.Set.e0), .v (.int .u64 a0.Set.e1), .v (.int .u64 a0.Set.e2), .v (.int .u64 a0.Set.e3), .v (.int .i64 a0.Min), .v (.int .i64 a0.Max)], .v (.slice A1 a1.length c2)] [] Φ ((rx_kinds_2_p a0 a1 A1 c2) r) := by
 refine CallG.W Try.func79 fun E G β0 => ?_
 rw [rx_kinds_2]
 exact W.ret 9 [] () [] H
def rx_kinds_1_p (a0 : TNode) (a1 : (List Bool)) (A1 : Option Addr) (c2 : Nat) (r : Bool) : Post := tPost (fun t : Unit => .v (.bool r)) (fun t => []) (fun t => [])
theorem rx_kinds_1_c (Φ : Phi) (a0 : TNode) (a1 : (List Bool)) (A1 : Option Addr) (c2 : Nat) (H : Reps Φ [.d (.row 1 a1.length (a1.map dB)) (.slice A1 a1.length c2)]) : ∀ r, rx_kinds_1 a0 a1 = some r → CallG Try.prog 78 [.agg [.v (.int .i64 a0.Kind), .v (.int .u64 a0.Set.e0), .v (.int .u64 a0.Set.e1), .v (.int .u64 a0.Set.e2), .v (.int .u64 a0.Set.e3), .v (.int .i64 a0.Min), .v (.int .i64 a0.Max)], .v (.slice A1 a1.length c2)] [] Φ ((rx_kinds_1_p a0 a1 A1 c2) r) := by
 refine CallG.W Try.func78 fun E G β0 => ?_
 rw [rx_kinds_1]
 exact W.ret 9 [] () [] H
def rx_kinds_5_p (a0 : TNode) (a1 : (List Bool)) (A1 : Option Addr) (c2 : Nat) (r : Bool) : Post := tPost (fun t : Unit => .v (.bool r)) (fun t => []) (fun t => [])
theorem rx_kinds_5_c (Φ : Phi) (a0 : TNode) (a1 : (List Bool)) (A1 : Option Addr) (c2 : Nat) (H : Reps Φ [.d (.row 1 a1.length (a1.map dB)) (.slice A1 a1.length c2)]) : ∀ r, rx_kinds_5 a0 a1 = some r → CallG Try.prog 83 [.agg [.v (.int .i64 a0.Kind), .v (.int .u64 a0.Set.e0), .v (.int .u64 a0.Set.e1), .v (.int .u64 a0.Set.e2), .v (.int .u64 a0.Set.e3), .v (.int .i64 a0.Min), .v (.int .i64 a0.Max)], .v (.slice A1 a1.length c2)] [] Φ ((rx_kinds_5_p a0 a1 A1 c2) r) := by
 refine CallG.W Try.func83 fun E G β0 => ?_
 rw [rx_kinds_5]
 refine W.ix 8 0 .i64 H (fun e3 v4 H => ?_)
 refine W.ld 0 0 [] H ?_
 intro H
 refine W.bs 1 [7, 8] ?_ ?_
 · refine W.ix 1 1 .i64 H (fun e5 v6 H => ?_)
   refine W.ld 0 0 [] H ?_
   intro H
   exact W.ret 3 [] () [] H
 · exact W.ret 6 [] () [] H
def rx_kinds_6_p (a0 : TNode) (a1 : (List Bool)) (A1 : Option Addr) (c2 : Nat) (r : Bool) : Post := tPost (fun t : Unit => .v (.bool r)) (fun t => []) (fun t => [])
theorem rx_kinds_6_c (Φ : Phi) (a0 : TNode) (a1 : (List Bool)) (A1 : Option Addr) (c2 : Nat) (H : Reps Φ [.d (.row 1 a1.length (a1.map dB)) (.slice A1 a1.length c2)]) : ∀ r, rx_kinds_6 a0 a1 = some r → CallG Try.prog 84 [.agg [.v (.int .i64 a0.Kind), .v (.int .u64 a0.Set.e0), .v (.int .u64 a0.Set.e1), .v (.int .u64 a0.Set.e2), .v (.int .u64 a0.Set.e3), .v (.int .i64 a0.Min), .v (.int .i64 a0.Max)], .v (.slice A1 a1.length c2)] [] Φ ((rx_kinds_6_p a0 a1 A1 c2) r) := by
 refine CallG.W Try.func84 fun E G β0 => ?_
 rw [rx_kinds_6]
 refine W.ix 8 0 .i64 H (fun e3 v4 H => ?_)
 refine W.ld 0 0 [] H ?_
 intro H
 refine W.bs 1 [7, 8] ?_ ?_
 · exact W.ret 6 [] () [] H
 · refine W.ix 1 1 .i64 H (fun e5 v6 H => ?_)
   refine W.ld 0 0 [] H ?_
   intro H
   exact W.ret 3 [] () [] H
def rx_kinds_3_p (a0 : TNode) (a1 : (List Bool)) (A1 : Option Addr) (c2 : Nat) (r : Bool) : Post := tPost (fun t : Unit => .v (.bool r)) (fun t => []) (fun t => [])
theorem rx_kinds_3_c (Φ : Phi) (a0 : TNode) (a1 : (List Bool)) (A1 : Option Addr) (c2 : Nat) (H : Reps Φ [.d (.row 1 a1.length (a1.map dB)) (.slice A1 a1.length c2)]) : ∀ r, rx_kinds_3 a0 a1 = some r → CallG Try.prog 80 [.agg [.v (.int .i64 a0.Kind), .v (.int .u64 a0.Set.e0), .v (.int .u64 a0.Set.e1), .v (.int .u64 a0.Set.e2), .v (.int .u64 a0.Set.e3), .v (.int .i64 a0.Min), .v (.int .i64 a0.Max)], .v (.slice A1 a1.length c2)] [] Φ ((rx_kinds_3_p a0 a1 A1 c2) r) := by
 refine CallG.W Try.func80 fun E G β0 => ?_
 rw [rx_kinds_3]
 refine W.ix 8 0 .i64 H (fun e3 v4 H => ?_)
 refine W.ld 0 0 [] H ?_
 intro H
 exact W.ret 2 [] () [] H
def rx_kinds_7_p (a0 : TNode) (a1 : (List Bool)) (A1 : Option Addr) (c2 : Nat) (r : Bool) : Post := tPost (fun t : Unit => .v (.bool r)) (fun t => []) (fun t => [])
theorem rx_kinds_7_c (Φ : Phi) (a0 : TNode) (a1 : (List Bool)) (A1 : Option Addr) (c2 : Nat) (H : Reps Φ [.d (.row 1 a1.length (a1.map dB)) (.slice A1 a1.length c2)]) : ∀ r, rx_kinds_7 a0 a1 = some r → CallG Try.prog 86 [.agg [.v (.int .i64 a0.Kind), .v (.int .u64 a0.Set.e0), .v (.int .u64 a0.Set.e1), .v (.int .u64 a0.Set.e2), .v (.int .u64 a0.Set.e3), .v (.int .i64 a0.Min), .v (.int .i64 a0.Max)], .v (.slice A1 a1.length c2)] [] Φ ((rx_kinds_7_p a0 a1 A1 c2) r) := by
 refine CallG.W Try.func86 fun E G β0 => ?_
 rw [rx_kinds_7]
 refine W.bs 11 [7, 8] ?_ ?_
 · exact W.ret 6 [] () [] H
 · refine W.ix 1 0 .i64 H (fun e3 v4 H => ?_)
   refine W.ld 0 0 [] H ?_
   intro H
   exact W.ret 3 [] () [] H
def rx_Nullable_1_p (a0 : TNode) (a1 : (List Bool)) (A1 : Option Addr) (c2 : Nat) (r : Bool) : Post := tPost (fun t : Unit => .v (.bool r)) (fun t => []) (fun t => [])
theorem rx_Nullable_1_c (Φ : Phi) (a0 : TNode) (a1 : (List Bool)) (A1 : Option Addr) (c2 : Nat) (H : Reps Φ [.d (.row 1 a1.length (a1.map dB)) (.slice A1 a1.length c2)]) : ∀ r, rx_Nullable_1 a0 a1 = some r → CallG Try.prog 52 [.agg [.v (.int .i64 a0.Kind), .v (.int .u64 a0.Set.e0), .v (.int .u64 a0.Set.e1), .v (.int .u64 a0.Set.e2), .v (.int .u64 a0.Set.e3), .v (.int .i64 a0.Min), .v (.int .i64 a0.Max)], .v (.slice A1 a1.length c2)] [] Φ ((rx_Nullable_1_p a0 a1 A1 c2) r) := by
 refine CallG.W Try.func52 fun E G β0 => ?_
 rw [rx_Nullable_1]
 refine W.fz 6 0 H (fun g3 Φ H => ?_)
 have H0 := H
 refine W.call 6 [] H (rx_kinds_c _   (H.sub [] rfl)) ?_
 rintro x44 ⟨⟩ Φ - H
 refine W.is 1 7 0 .i64 ?_ ?_
 · exact W.no
 refine W.is 0 7 1 .i64 ?_ ?_
 · refine W.call 3 [] H (rx_kinds_2_c _ _ _ A1 c2 (H.sub [0] rfl)) ?_
   rintro x324 ⟨⟩ Φ - H
   exact W.ret 3 [] () [] H
 refine W.is 0 7 2 .i64 ?_ ?_
 · refine W.call 3 [] H (rx_kinds_1_c _ _ _ A1 c2 (H.sub [0] rfl)) ?_
   rintro x324 ⟨⟩ Φ - H
   exact W.ret 3 [] () [] H
 refine W.is 0 7 3 .i64 ?_ ?_
 · refine W.call 3 [] H (rx_kinds_2_c _ _ _ A1 c2 (H.sub [0] rfl)) ?_
   rintro x324 ⟨⟩ Φ - H
   exact W.ret 3 [] () [] H
 refine W.is 0 7 4 .i64 ?_ ?_
 · refine W.call 3 [] H (rx_kinds_5_c _ _ _ A1 c2 (H.sub [0] rfl)) ?_
   rintro x324 ⟨⟩ Φ - H
   exact W.ret 3 [] () [] H
 refine W.is 0 7 5 .i64 ?_ ?_
 · refine W.call 3 [] H (rx_kinds_6_c _ _ _ A1 c2 (H.sub [0] rfl)) ?_
   rintro x324 ⟨⟩ Φ - H
   exact W.ret 3 [] () [] H
 refine W.is 0 7 6 .i64 ?_ ?_
 · refine W.call 3 [] H (rx_kinds_1_c _ _ _ A1 c2 (H.sub [0] rfl)) ?_
   rintro x324 ⟨⟩ Φ - H
   exact W.ret 3 [] () [] H
 refine W.is 0 7 7 .i64 ?_ ?_
 · refine W.call 3 [] H (rx_kinds_3_c _ _ _ A1 c2 (H.sub [0] rfl)) ?_
   rintro x324 ⟨⟩ Φ - H
   exact W.ret 3 [] () [] H
 refine W.is 0 7 8 .i64 ?_ ?_
 · refine W.call 3 [] H (rx_kinds_1_c _ _ _ A1 c2 (H.sub [0] rfl)) ?_
   rintro x324 ⟨⟩ Φ - H
   exact W.ret 3 [] () [] H
 refine W.is 0 7 9 .i64 ?_ ?_
 · refine W.call 3 [] H (rx_kinds_7_c _ _ _ A1 c2 (H.sub [0] rfl)) ?_
   rintro x324 ⟨⟩ Φ - H
   exact W.ret 3 [] () [] H
 exact W.no
def rx_folded_bool__1_p (a0 : (List TNode)) (b0 : Nat) (A1 : Option Addr) (c2 : Nat) (b1 : Nat) (r : Bool) : Post := tPost (fun t : Unit => .v (.bool r)) (fun t => [.f b0 [.slice A1 a0.length c2] 30, .f b1 [.func (.func 52) #[] #[]] 74]) (fun t => [])
theorem rx_folded_bool__1_c (n : Nat) (Φ : Phi) (a0 : (List TNode)) (b0 : Nat) (A1 : Option Addr) (c2 : Nat) (b1 : Nat) (H : Reps Φ [.d (.row 7 a0.length (a0.map TNode.d)) (.slice A1 a0.length c2)]) : ∀ r, rx_folded_bool__1 n a0 = some r → CallG Try.prog 77 [.p 0 0, .p 1 0] [.f b0 [.slice A1 a0.length c2] 30, .f b1 [.func (.func 52) #[] #[]] 74] Φ ((ePost 33 2 (rx_folded_bool__1_p a0 b0 A1 c2 b1)) r) := by
 refine CallG.W Try.func77 fun E G β0 => ?_
 have hP := PanK.body (Γ := ⟨Try.prog, E, G, Φ, β0, 2, [], none⟩) (fn := Try.f77) (T := 33) (p := rx_folded_bool__1_p a0 b0 A1 c2 b1) rfl
 rw [rx_folded_bool__1]
 refine W.callE 12 [] hP H (rx_of_c n _ _ A1 c2 (H.sub [0] rfl)) ?_
 rintro x3 ⟨A4, c5⟩ Φ - H
 refine W.nl 8 4 1 ?_
 replace H := Reps.nilR (enc := dB) (sz := 1) H
 refine W.lp 0 0 (fun m st => rx_folded_bool__1_L0 n x3 m st) (fun (st : (List Bool) × Int) (t : Option Addr × Nat × List Value) => ⟨fr 46 [(1, .p 1 0), (3, .v (.slice t.1 st.1.length t.2.1)), (14, .v (.slice A4 x3.length c5)), (15, .v (.int .i64 (x3.length : Int))), (16, .v (.int .i64 st.2))], [.f b0 [.slice A1 a0.length c2] 30, .f b1 [.func (.func 52) #[] #[]] 74, .dead, .o (.slice t.1 st.1.length t.2.1) st.1.length t.2.2 4 1]⟩) (fun (st : (List Bool) × Int) (t : Option Addr × Nat × List Value) => [.r 1 (st.1.map dB) t.2.2, .d (.row 7 x3.length (x3.map TNode.d)) (.slice A4 x3.length c5), .d (.row 7 a0.length (a0.map TNode.d)) (.slice A1 a0.length c2)]) (fun (st : (List Bool)) (t : Option Addr × Nat × List Value) => ⟨fr 46 [(3, .v (.slice t.1 st.length t.2.1))], [.f b0 [.slice A1 a0.length c2] 30, .f b1 [.func (.func 52) #[] #[]] 74, .dead, .o (.slice t.1 st.length t.2.1) st.length t.2.2 4 1]⟩) (fun (st : (List Bool)) (t : Option Addr × Nat × List Value) => [.r 1 (st.map dB) t.2.2, .d (.row 7 a0.length (a0.map TNode.d)) (.slice A1 a0.length c2)]) (none, 0, _) (H.sub [0, 1, 2] rfl) (fun _ => rfl) ?_ ?_
 · rintro o0 ⟨y0_0, y0_1, y0_2⟩ Φ H
   refine W.rdo 3 3 0 .i64 [] (B := y0_0) (n := o0.length) (c := y0_1) (t := 4) H ?_
   intro e341 v342 H
   exact W.ret 2 [0, 1] () [] H
 · intro m0 ih0 kx0
   rintro ⟨x0_0, x0_1⟩ ⟨t0_0, t0_1, t0_2⟩ Φ H
   rw [rx_folded_bool__1_L0]
   refine W.bs 5 [17] ?_ ?_
   · refine W.ix 6 1 .i64 H (fun e6 v7 H => ?_)
     refine W.ld 0 0 [] H ?_
     intro H
     refine W.call 6 [] H (rx_known_c n _ _  (H.sub [] rfl)) ?_
     rintro x8 (none | ⟨v10, v11⟩) Φ - H
     · refine W.fz 17 4 H (fun g12 Φ H => ?_)
       refine W.fz 0 5 H (fun g13 Φ H => ?_)
       have H0 := H
       refine W.als (B := t0_0) (c := t0_1) (t := 4) 6 3 1 H (fun l214 A215 c216 H => ?_)
       refine W.callT 2 [(0, 3)] H (fun Φ H => rx_Nullable_1_c _ _ _ A215 c216 (H.sub [0] rfl)) ?_ ⟨⟨_, x0_0.length, t0_1, _, 4, 1, _, _, _, _, _, by kernel_rfl, rfl⟩, trivial⟩ (fun _ _ _ h => h)
       rintro x254 ⟨⟩ - H
       refine W.osl (B := t0_0) (c := t0_1) (t := 4) 6 3 2 H (fun l334 u335 H => ?_)
       refine W.row 2 6 dB [x254] [[]] 1 H (fun g336 H => ?_)
       refine W.apO (V := .slice t0_0 l334.length t0_1) (t := 4) (B' := (some (⟨g336, 0, none⟩ : Addr))) (n := 1) (C' := 1) 0 3 6 1 0 H (fun l337 A338 c339 u340 H => ?_)
       exact W.to 7 (ih0 (l337, (w (x0_1 + 1))) (A338, c339, _) _ (H.sub [0, 6, 7] rfl))
     · skip
       refine W.fz 17 4 H (fun g12 Φ H => ?_)
       refine W.fz 0 5 H (fun g13 Φ H => ?_)
       have H0 := H
       refine W.als (B := t0_0) (c := t0_1) (t := 4) 6 3 1 H (fun l214 A215 c216 H => ?_)
       refine W.callT 2 [(0, 3)] H (fun Φ H => rx_Nullable_1_c _ _ _ A215 c216 (H.sub [0] rfl)) ?_ ⟨⟨_, x0_0.length, t0_1, _, 4, 1, _, _, _, _, _, by kernel_rfl, rfl⟩, trivial⟩ (fun _ _ _ h => h)
       rintro x254 ⟨⟩ - H
       refine W.osl (B := t0_0) (c := t0_1) (t := 4) 6 3 2 H (fun l334 u335 H => ?_)
       refine W.row 2 6 dB [x254] [[]] 1 H (fun g336 H => ?_)
       refine W.apO (V := .slice t0_0 l334.length t0_1) (t := 4) (B' := (some (⟨g336, 0, none⟩ : Addr))) (n := 1) (C' := 1) 0 3 6 1 0 H (fun l337 A338 c339 u340 H => ?_)
       exact W.to 7 (ih0 (l337, (w (x0_1 + 1))) (A338, c339, _) _ (H.sub [0, 6, 7] rfl))
   · exact W.to 2 (kx0 x0_0 (t0_0, t0_1, _) _ (H.sub [0, 2] rfl))
def rx_tries_bool_p (a0 : (List TNode)) (b0 : Nat) (A1 : Option Addr) (c2 : Nat) (b1 : Nat) (r : Bool × Int) : Post := tPost (fun t : Unit => .tup [.v (.bool r.1), .v (.int .i64 r.2)]) (fun t => [.f b0 [.slice A1 a0.length c2] 30, .f b1 [.func (.func 52) #[] #[]] 74]) (fun t => [])
theorem rx_tries_bool_c (n : Nat) (Φ : Phi) (a0 : (List TNode)) (b0 : Nat) (A1 : Option Addr) (c2 : Nat) (b1 : Nat) (H : Reps Φ [.d (.row 7 a0.length (a0.map TNode.d)) (.slice A1 a0.length c2)]) : ∀ r, rx_tries_bool n a0 = some r → CallG Try.prog 76 [.fn (.func 77) [.p 0 0, .p 1 0]] [.f b0 [.slice A1 a0.length c2] 30, .f b1 [.func (.func 52) #[] #[]] 74] Φ ((rx_tries_bool_p a0 b0 A1 c2 b1) r) := by
 refine CallG.WN Try.func76 fun E G β0 => ?_
 rw [rx_tries_bool]
 refine WN.unf 0 0 ?_
 refine WN.unf 0 1 ?_
 refine WN.tr 8 2 1 1 [.bool false] (fun g3 => ?_)
 refine WN.tr 0 3 1 1 [.int .i64 0] (fun g4 => ?_)
 refine WN.defer 0 93 #[.pointer (some ⟨g3, 0, none⟩), .pointer (some ⟨g4, 0, none⟩)] ?_
 refine WN.callD 4 [0, 1] H (rx_folded_bool__1_c n _ _ b0 A1 c2 b1 (H.sub [0] rfl)) ?_ ?_
 · rintro x5 ⟨⟩ Φ - H
   refine WN.sto 0 2 ?_
   refine WN.sto 0 3 ?_
   refine WN.retD 1 93 #[.pointer (some ⟨g3, 0, none⟩), .pointer (some ⟨g4, 0, none⟩)] Try.func93 (fun E2 G2 β2 => ?_)
   refine W.nn 3 false ?_
   exact W.endD 3 2 3 [0, 1] () [] H
 · intro e6 Φ H r hr
   cases hr
   refine WN.panD 4 93 #[.pointer (some ⟨g3, 0, none⟩), .pointer (some ⟨g4, 0, none⟩)] Try.func93 (fun E2 G2 β2 => ?_)
   refine W.ta 9 (.int .i64 e6) ?_
   refine W.sto 21 2 ?_
   refine W.sto 0 3 ?_
   exact W.endD 1 2 3 [0, 1] () [] H
def rx_folded_bool_p (a0 : (List TNode)) (A1 : Option Addr) (c2 : Nat) (r : Bool × Int) : Post := tPost (fun t : Unit => .tup [.v (.bool r.1), .v (.int .i64 r.2)]) (fun t => []) (fun t => [])
theorem rx_folded_bool_c (n : Nat) (Φ : Phi) (a0 : (List TNode)) (A1 : Option Addr) (c2 : Nat) (H : Reps Φ [.d (.row 7 a0.length (a0.map TNode.d)) (.slice A1 a0.length c2)]) : ∀ r, rx_folded_bool n a0 = some r → CallG Try.prog 51 [.v (.slice A1 a0.length c2), .v (.func (.func 52) #[] #[])] [] Φ ((rx_folded_bool_p a0 A1 c2) r) := by
 refine CallG.W Try.func51 fun E G β0 => ?_
 rw [rx_folded_bool]
 refine W.fz 10 0 H (fun g3 Φ H => ?_)
 refine W.fz 0 1 H (fun g4 Φ H => ?_)
 refine W.call 0 [0, 1] H (rx_tries_bool_c n _ _ g3 A1 c2 g4 (H.sub [0] rfl)) ?_
 rintro x5 ⟨⟩ Φ - H
 exact W.ret 5 [] () [] H
def rx_Nullable_p (a0 : (List TNode)) (A1 : Option Addr) (c2 : Nat) (r : Bool × Int) : Post := tPost (fun t : Unit => .tup [.v (.bool r.1), .v (.int .i64 r.2)]) (fun t => []) (fun t => [])
theorem rx_Nullable_c (n : Nat) (Φ : Phi) (a0 : (List TNode)) (A1 : Option Addr) (c2 : Nat) (H : Reps Φ [.d (.row 7 a0.length (a0.map TNode.d)) (.slice A1 a0.length c2)]) : ∀ r, rx_Nullable n a0 = some r → CallG Try.prog 19 [.v (.slice A1 a0.length c2)] [] Φ ((rx_Nullable_p a0 A1 c2) r) := by
 refine CallG.W Try.func19 fun E G β0 => ?_
 rw [rx_Nullable]
 refine W.call 8 [] H (rx_folded_bool_c n _ _ A1 c2 (H.sub [0] rfl)) ?_
 rintro x3 ⟨⟩ Φ - H
 exact W.ret 5 [] () [] H
def rx_tree_nodes_p (a0 : Trx_tree) (b0 : Nat) (A1 : Option Addr) (c2 : Nat) (r : Trx_tree) : Post := tPost (fun t : Value => .v (.func (.func 94) #[] #[t])) (fun t => [.f b0 [.slice A1 a0.Rx.length c2] 71]) (fun t => [.d (.box (.box (Trx_tree.d r))) t])
theorem rx_tree_nodes_c (Φ : Phi) (a0 : Trx_tree) (b0 : Nat) (A1 : Option Addr) (c2 : Nat) (H : Reps Φ [.d (.row 7 a0.Rx.length (a0.Rx.map TNode.d)) (.slice A1 a0.Rx.length c2)]) : ∀ r, rx_tree_nodes a0 = some r → CallG Try.prog 88 [.p 0 0] [.f b0 [.slice A1 a0.Rx.length c2] 71] Φ ((rx_tree_nodes_p a0 b0 A1 c2) r) := by
 refine CallG.W Try.func88 fun E G β0 => ?_
 rw [rx_tree_nodes]
 refine W.unf1 2 0 0 0 ?_
 refine W.fz 5 1 H (fun g3 Φ H => ?_)
 refine W.unf1 0 1 1 0 ?_
 refine W.mf 0 (.func (.func 94) #[] #[.pointer (some ⟨g3, 0, none⟩)]) ?_
 refine W.f2d 2 0 (g := b0) (cs := [.slice A1 a0.Rx.length c2]) (t := 71) (x := Trx_tree.d a0) (es := [.d (.row 7 a0.Rx.length (a0.Rx.map TNode.d)) (.slice A1 a0.Rx.length c2)]) [0] H (fun H => ?_) ⟨rfl, trivial⟩
 refine W.f2d 0 1 (g := g3) (cs := [.pointer (some ⟨b0, 0, none⟩)]) (t := 72) (x := .box (Trx_tree.d a0)) (es := [.d (.box (Trx_tree.d a0)) (.pointer (some ⟨b0, 0, none⟩))]) [0] H (fun H => ?_) ⟨rfl, trivial⟩
 exact W.ret 0 [0] (Value.pointer (some ⟨g3, 0, none⟩)) [0] H
theorem rx_tree_nodes_1_c {τ : Type} (n : Nat) (Φ : Phi) (a0 : Trx_tree) (w0 : Value) (y : τ → (Int × Int) → Option (Bool × τ)) (H : Reps Φ [.d (.box (.box (Trx_tree.d a0))) w0]) : IterC Try.prog 94 [w0] Φ (fun (x : Int × Int) => [.v (.int .i64 x.1), .v (.int .i64 x.2)]) y (fun g => rx_tree_nodes_1 n a0 y g) := by
 refine IterC.W Try.func94 fun l J wE F0 c g hY hI => ?_
 rw [rx_tree_nodes_1]
 refine W.ld 9 0 [false] H ?_
 intro v1 H
 refine W.nck 0 0 H ?_
 refine W.fa 0 0 (x := .row 7 a0.Rx.length (a0.Rx.map TNode.d)) H (fun v2 H => ?_)
 refine W.ld 0 0 [true] H ?_
 intro A3 c4 H
 refine W.nl 5 3 1 ?_
 replace H := Reps.nilR (enc := (dI .i64)) (sz := 1) H
 refine W.lpY 0 0 (fun m st => rx_tree_nodes_1_L0 n a0 y m st) (fun (st : (List Int) × Int × τ) => st.2.2) (fun (st : τ) => st) (fun (st : (List Int) × Int × τ) (t : Option Addr × Nat × List Value) => ⟨fr 50 [(0, .v (.func (.yield l) #[] #[])), (3, .v (.slice t.1 st.1.length t.2.1)), (13, .v (.slice A3 a0.Rx.length c4)), (14, .v (.int .i64 (a0.Rx.length : Int))), (15, .v (.int .i64 st.2.1))], [.o (.slice t.1 st.1.length t.2.1) st.1.length t.2.2 3 1]⟩) (fun (st : (List Int) × Int × τ) (t : Option Addr × Nat × List Value) => [.r 1 (st.1.map (dI .i64)) t.2.2, .d (.row 7 a0.Rx.length (a0.Rx.map TNode.d)) (.slice A3 a0.Rx.length c4)]) (fun (st : τ) (t : Unit) => ⟨fr 50 [], []⟩) (fun (st : τ) (t : Unit) => []) (none, 0, _) hI (H.sub [0, 1] rfl) (fun _ => rfl) ?_ ?_
 · rintro c o0 ⟨⟩ Φ hI H
   exact W.iend 1 hY hI
 · intro m0 ih0 kx0
   rintro c ⟨x0_0, x0_1, x0_2⟩ ⟨t0_0, t0_1, t0_2⟩ Φ hI H
   rw [rx_tree_nodes_1_L0]
   refine W.bs 5 [16] ?_ ?_
   · refine W.ix 7 1 .i64 H (fun e5 v6 H => ?_)
     refine W.ld 0 0 [] H ?_
     intro H
     refine W.call 7 [] H (rx_known_c n _ _  (H.sub [] rfl)) ?_
     rintro x7 (none | ⟨v9, v10⟩) Φ - H
     · refine W.bs 28 [33] ?_ ?_
       · refine W.rdo 4 0 1 .i64 [] (B := t0_0) (n := x0_0.length) (c := t0_1) (t := 3) H ?_
         intro e11 v12 H
         refine W.osl (B := t0_0) (c := t0_1) (t := 3) 6 0 1 H (fun l13 u14 H => ?_)
         refine W.row 2 3 (dI .i64) [e11] [[]] 1 H (fun g15 H => ?_)
         refine W.apO (V := .slice t0_0 l13.length t0_1) (t := 3) (B' := (some (⟨g15, 0, none⟩ : Addr))) (n := 1) (C' := 1) 0 0 3 1 0 H (fun l16 A17 c18 u19 H => ?_)
         refine W.yield 3 3 (d := 47) (a := (x0_1, e11)) (vs := [.int .i64 x0_1, .int .i64 e11]) (es := []) hY hI [] H ?_ ⟨rfl, rfl, trivial⟩
         rintro (_ | _) g20 c Φ - hI H
         · refine W.y2 ?_
           exact W.to 2 (kx0 _ g20 () _ hI (H.sub [] rfl))
         · refine W.y1 ?_
           exact W.to 7 (ih0 _ (l16, (w (x0_1 + 1)), g20) (A17, c18, _) _ hI (H.sub [0, 5] rfl))
       · refine W.osl (B := t0_0) (c := t0_1) (t := 3) 6 0 1 H (fun l21 u22 H => ?_)
         refine W.row 2 3 (dI .i64) [x0_1] [[]] 1 H (fun g23 H => ?_)
         refine W.apO (V := .slice t0_0 l21.length t0_1) (t := 3) (B' := (some (⟨g23, 0, none⟩ : Addr))) (n := 1) (C' := 1) 0 0 3 1 0 H (fun l24 A25 c26 u27 H => ?_)
         refine W.yield 3 3 (d := 47) (a := (x0_1, x0_1)) (vs := [.int .i64 x0_1, .int .i64 x0_1]) (es := []) hY hI [] H ?_ ⟨rfl, rfl, trivial⟩
         rintro (_ | _) g28 c Φ - hI H
         · refine W.y2 ?_
           exact W.to 2 (kx0 _ g28 () _ hI (H.sub [] rfl))
         · refine W.y1 ?_
           exact W.to 7 (ih0 _ (l24, (w (x0_1 + 1)), g28) (A25, c26, _) _ hI (H.sub [0, 5] rfl))
     · skip
       refine W.bs 28 [33] ?_ ?_
       · refine W.rdo 4 0 1 .i64 [] (B := t0_0) (n := x0_0.length) (c := t0_1) (t := 3) H ?_
         intro e11 v12 H
         refine W.osl (B := t0_0) (c := t0_1) (t := 3) 6 0 1 H (fun l13 u14 H => ?_)
         refine W.row 2 3 (dI .i64) [e11] [[]] 1 H (fun g15 H => ?_)
         refine W.apO (V := .slice t0_0 l13.length t0_1) (t := 3) (B' := (some (⟨g15, 0, none⟩ : Addr))) (n := 1) (C' := 1) 0 0 3 1 0 H (fun l16 A17 c18 u19 H => ?_)
         refine W.yield 3 3 (d := 47) (a := (x0_1, e11)) (vs := [.int .i64 x0_1, .int .i64 e11]) (es := []) hY hI [] H ?_ ⟨rfl, rfl, trivial⟩
         rintro (_ | _) g20 c Φ - hI H
         · refine W.y2 ?_
           exact W.to 2 (kx0 _ g20 () _ hI (H.sub [] rfl))
         · refine W.y1 ?_
           exact W.to 7 (ih0 _ (l16, (w (x0_1 + 1)), g20) (A17, c18, _) _ hI (H.sub [0, 5] rfl))
       · refine W.osl (B := t0_0) (c := t0_1) (t := 3) 6 0 1 H (fun l21 u22 H => ?_)
         refine W.row 2 3 (dI .i64) [x0_1] [[]] 1 H (fun g23 H => ?_)
         refine W.apO (V := .slice t0_0 l21.length t0_1) (t := 3) (B' := (some (⟨g23, 0, none⟩ : Addr))) (n := 1) (C' := 1) 0 0 3 1 0 H (fun l24 A25 c26 u27 H => ?_)
         refine W.yield 3 3 (d := 47) (a := (x0_1, x0_1)) (vs := [.int .i64 x0_1, .int .i64 x0_1]) (es := []) hY hI [] H ?_ ⟨rfl, rfl, trivial⟩
         rintro (_ | _) g28 c Φ - hI H
         · refine W.y2 ?_
           exact W.to 2 (kx0 _ g28 () _ hI (H.sub [] rfl))
         · refine W.y1 ?_
           exact W.to 7 (ih0 _ (l24, (w (x0_1 + 1)), g28) (A25, c26, _) _ hI (H.sub [0, 5] rfl))
   · exact W.to 2 (kx0 _ x0_2 () _ hI (H.sub [] rfl))
def rx_tree_begin_p (a0 : Trx_tree) (a1 : Int) (b0 : Nat) (A1 : Option Addr) (c2 : Nat) (r : Int) : Post := tPost (fun t : Unit => .v (.int .i64 r)) (fun t => [.f b0 [.slice A1 a0.Rx.length c2] 71]) (fun t => [])
theorem rx_tree_begin_c (n : Nat) (Φ : Phi) (a0 : Trx_tree) (a1 : Int) (b0 : Nat) (A1 : Option Addr) (c2 : Nat) (H : Reps Φ [.d (.row 7 a0.Rx.length (a0.Rx.map TNode.d)) (.slice A1 a0.Rx.length c2)]) : ∀ r, rx_tree_begin n a0 a1 = some r → CallG Try.prog 59 [.p 0 0, .v (.int .i64 a1)] [.f b0 [.slice A1 a0.Rx.length c2] 71] Φ ((rx_tree_begin_p a0 a1 b0 A1 c2) r) := by
 refine CallG.WM Try.func59 fun E G β0 hM => ?_
 rw [rx_tree_begin]
 refine W.call 9 [0] H (rx_tree_nodes_c _ _ b0 A1 c2 (H.sub [0] rfl)) ?_
 rintro x3 v4 Φ - H
 refine W.rng 2 7 3 (fr := (fr 16 [(3, .p 1 0), (4, .p 2 0), (8, .v (.func (.func 94) #[] #[v4])), (9, U), (10, U)])) (hps := (fun (st : Int) (t : Unit) => [.f b0 [.slice A1 a0.Rx.length c2] 71, .c [.v (.int .i64 a1)] 3, .c [.v (.int .i64 st)] 3])) (ens := (fun (st : Int) (t : Unit) => [.d (.box (.box (Trx_tree.d x3))) v4, .d (.row 7 a0.Rx.length (a0.Rx.map TNode.d)) (.slice A1 a0.Rx.length c2)])) (Y := (rx_tree_begin_R0 n a1)) (s0 := 0) () [] hM (rx_tree_nodes_1_c n _ _ v4 (yOf (rx_tree_begin_R0 n a1)) (H.sub [0] rfl)) (H.sub [0, 1] rfl) ?_ ?_ (hA := by intro _ _ _ _ ; show _ = _; kernel_rfl)
 · rintro l E G β0 x0_0 ⟨⟩ ⟨b0_0, b0_1⟩ Φ
   intro H
   rw [rx_tree_begin_R0]
   refine W.bs 7 [13] ?_ ?_
   · exact W.rend 6 (r := .rt b0_1) () [0, 1] H
   · exact W.rend 3 (r := .go x0_0) () [0, 1] H
 · rintro c D (o0 | ⟨j, o0⟩ | o0) ⟨⟩ Φ - hM H
   · refine W.k1 ?_
     exact W.retM 6 hM [0] () [] H
   · refine W.k2 ?_
     exact W.no
   · refine W.k3 ?_
     exact W.retM 0 hM [0] () [] H
def rx_tree_cut_p (a0 : Trx_tree) (a1 : Int) (a2 : Int) (b0 : Nat) (A1 : Option Addr) (c2 : Nat) (r : (List TNode)) : Post := tPost (fun t : Option Addr × Nat × List Value => .v (.slice t.1 r.length t.2.1)) (fun t => [.f b0 [.slice A1 a0.Rx.length c2] 71, .o (.slice t.1 r.length t.2.1) r.length t.2.2 26 7]) (fun t => [.r 7 (r.map TNode.d) t.2.2])
theorem rx_tree_cut_c (Φ : Phi) (a0 : Trx_tree) (a1 : Int) (a2 : Int) (b0 : Nat) (A1 : Option Addr) (c2 : Nat) (H : Reps Φ [.d (.row 7 a0.Rx.length (a0.Rx.map TNode.d)) (.slice A1 a0.Rx.length c2)]) : ∀ r, rx_tree_cut a0 a1 a2 = some r → CallG Try.prog 58 [.p 0 0, .v (.int .i64 a1), .v (.int .i64 a2)] [.f b0 [.slice A1 a0.Rx.length c2] 71] Φ ((rx_tree_cut_p a0 a1 a2 b0 A1 c2) r) := by
 refine CallG.W Try.func58 fun E G β0 => ?_
 rw [rx_tree_cut]
 refine W.mks (enc := TNode.d) (e := 26) (sz := 7) 9 (⟨0, (⟨0, 0, 0, 0⟩ : Ar4_dI_u64), 0, 0⟩ : TNode) [] H (fun l3 g4 u5 H => ?_)
 refine W.dsl 11 1 H (fun l6 A7 c8 H => ?_)
 refine W.cpy (g := g4) (n := l3.length) (e := 26) 0 1 1 0 [7] H (fun l9 u10 H => ?_)
 refine W.os3 (xs := l9) (enc := TNode.d) (B := (some (⟨g4, 0, none⟩ : Addr))) 10 0 H ?_
 exact W.ret 2 [0, 1] ((some (⟨g4, 0, none⟩ : Addr)), l9.length, _) [0] H
def rx_Below_1_p (a0 : (List TNode)) (a1 : Int) (b0 : Nat) (A1 : Option Addr) (c2 : Nat) (b1 : Nat) (r : (List TNode)) : Post := tPost (fun t : Option Addr × Nat × List Value => .v (.slice t.1 r.length t.2.1)) (fun t => [.f b0 [.slice A1 a0.length c2] 30, .f b1 [.int .i64 a1] 3, .o (.slice t.1 r.length t.2.1) r.length t.2.2 26 7]) (fun t => [.r 7 (r.map TNode.d) t.2.2])
theorem rx_Below_1_c (n : Nat) (Φ : Phi) (a0 : (List TNode)) (a1 : Int) (b0 : Nat) (A1 : Option Addr) (c2 : Nat) (b1 : Nat) (H : Reps Φ [.d (.row 7 a0.length (a0.map TNode.d)) (.slice A1 a0.length c2)]) : ∀ r, rx_Below_1 n a0 a1 = some r → CallG Try.prog 57 [.p 0 0, .p 1 0] [.f b0 [.slice A1 a0.length c2] 30, .f b1 [.int .i64 a1] 3] Φ ((ePost 33 2 (rx_Below_1_p a0 a1 b0 A1 c2 b1)) r) := by
 refine CallG.W Try.func57 fun E G β0 => ?_
 have hP := PanK.body (Γ := ⟨Try.prog, E, G, Φ, β0, 2, [], none⟩) (fn := Try.f57) (T := 33) (p := rx_Below_1_p a0 a1 b0 A1 c2 b1) rfl
 rw [rx_Below_1]
 refine W.callE 7 [] hP H (rx_of_c n _ _ A1 c2 (H.sub [0] rfl)) ?_
 rintro x3 ⟨A4, c5⟩ Φ - H
 refine W.bs 7 [7, 8] ?_ ?_
 · refine W.callE 5 [] hP H (rx_need_c _ _ _  (H.sub [] rfl)) ?_
   rintro x6 ⟨⟩ Φ - H
   refine W.fz 2 2 H (fun g7 Φ H => ?_)
   have H0 := H
   refine W.call 7 [2] H (rx_tree_begin_c n _ _ _ g7 A4 c5 (H.sub [0] rfl)) ?_
   rintro x168 ⟨⟩ Φ - H
   refine W.call 2 [2] H (rx_tree_cut_c _ _ _ _ g7 A4 c5 (H.sub [0] rfl)) ?_
   rintro x288 ⟨A289, c290, u291⟩ Φ - H
   exact W.ret 3 [0, 1, 3] (A289, c290, _) [0] H
 · refine W.callE 5 [] hP H (rx_need_c _ _ _  (H.sub [] rfl)) ?_
   rintro x368 ⟨⟩ Φ - H
   refine W.fz 2 2 H (fun g369 Φ H => ?_)
   have H0 := H
   refine W.call 7 [2] H (rx_tree_begin_c n _ _ _ g369 A4 c5 (H.sub [0] rfl)) ?_
   rintro x530 ⟨⟩ Φ - H
   refine W.call 2 [2] H (rx_tree_cut_c _ _ _ _ g369 A4 c5 (H.sub [0] rfl)) ?_
   rintro x650 ⟨A651, c652, u653⟩ Φ - H
   exact W.ret 3 [0, 1, 3] (A651, c652, _) [0] H
def rx_tries_Rx_v1_p (a0 : (List TNode)) (a1 : Int) (b0 : Nat) (A1 : Option Addr) (c2 : Nat) (b1 : Nat) (r : (List TNode) × Int) : Post := tPost (fun t : Option Addr × Nat × List Value => .tup [.v (.slice t.1 r.1.length t.2.1), .v (.int .i64 r.2)]) (fun t => [.f b0 [.slice A1 a0.length c2] 30, .f b1 [.int .i64 a1] 3, .o (.slice t.1 r.1.length t.2.1) r.1.length t.2.2 26 7]) (fun t => [.r 7 (r.1.map TNode.d) t.2.2])
theorem rx_tries_Rx_v1_c (n : Nat) (Φ0 : Phi) (a0 : (List TNode)) (a1 : Int) (b0 : Nat) (A1 : Option Addr) (c2 : Nat) (b1 : Nat) (H : Reps Φ0 [.d (.row 7 a0.length (a0.map TNode.d)) (.slice A1 a0.length c2)]) : ∀ r, rx_tries_Rx_v1 n a0 a1 = some r → CallG Try.prog 41 [.fn (.func 57) [.p 0 0, .p 1 0]] [.f b0 [.slice A1 a0.length c2] 30, .f b1 [.int .i64 a1] 3] Φ0 ((rx_tries_Rx_v1_p a0 a1 b0 A1 c2 b1) r) := by
 refine CallG.WN Try.func41 fun E G β0 => ?_
 rw [rx_tries_Rx_v1]
 refine WN.unf 0 0 ?_
 refine WN.unf 0 1 ?_
 replace H := Reps.le0 H
 refine WN.tr 8 2 1 1 [.slice none 0 0] (fun g3 => ?_)
 refine WN.tr 0 3 1 1 [.int .i64 0] (fun g4 => ?_)
 refine WN.defer 0 72 #[.pointer (some ⟨g3, 0, none⟩), .pointer (some ⟨g4, 0, none⟩)] ?_
 have hz5 : PhiLe 0 Φ0 _ := H.lez 0
 refine WN.nl 4 26 7 ?_
 replace H := Reps.nilR (enc := TNode.d) (sz := 7) H
 refine WN.callD 0 [0, 1] H (rx_Below_1_c n _ _ _ b0 A1 c2 b1 (H.sub [2] rfl)) ?_ ?_
 · rintro x6 ⟨A7, c8, u9⟩ Φ - H
   refine WN.sto 0 2 ?_
   refine WN.sto 0 3 ?_
   refine WN.retD 1 72 #[.pointer (some ⟨g3, 0, none⟩), .pointer (some ⟨g4, 0, none⟩)] Try.func72 (fun E2 G2 β2 => ?_)
   refine W.nn 3 false ?_
   exact W.endD 3 2 3 [0, 1, 5] (A7, c8, _) [0] H
 · intro e10 Φ H r hr
   cases hr
   refine WN.panD 0 72 #[.pointer (some ⟨g3, 0, none⟩), .pointer (some ⟨g4, 0, none⟩)] Try.func72 (fun E2 G2 β2 => ?_)
   refine W.ta 9 (.int .i64 e10) ?_
   refine W.sto 21 2 ?_
   refine W.sto 0 3 ?_
   exact W.endD 1 2 3 [0, 1, 4] (none, 0, _) [0] H
def rx_Below_p (a0 : (List TNode)) (a1 : Int) (A1 : Option Addr) (c2 : Nat) (r : (List TNode) × Int) : Post := tPost (fun t : Option Addr × Nat × List Value => .tup [.v (.slice t.1 r.1.length t.2.1), .v (.int .i64 r.2)]) (fun t => [.o (.slice t.1 r.1.length t.2.1) r.1.length t.2.2 26 7]) (fun t => [.r 7 (r.1.map TNode.d) t.2.2])
theorem rx_Below_c (n : Nat) (Φ : Phi) (a0 : (List TNode)) (a1 : Int) (A1 : Option Addr) (c2 : Nat) (H : Reps Φ [.d (.row 7 a0.length (a0.map TNode.d)) (.slice A1 a0.length c2)]) : ∀ r, rx_Below n a0 a1 = some r → CallG Try.prog 23 [.v (.slice A1 a0.length c2), .v (.int .i64 a1)] [] Φ ((rx_Below_p a0 a1 A1 c2) r) := by
 refine CallG.W Try.func23 fun E G β0 => ?_
 rw [rx_Below]
 refine W.fz 10 0 H (fun g3 Φ H => ?_)
 refine W.fz 0 1 H (fun g4 Φ H => ?_)
 refine W.call 0 [0, 1] H (rx_tries_Rx_v1_c n _ _ _ g3 A1 c2 g4 (H.sub [0] rfl)) ?_
 rintro x5 ⟨A6, c7, u8⟩ Φ - H
 exact W.ret 5 [2] (A6, c7, _) [0] H
def slices_Reverse_sRx_Rx_p (a0 : (List (List TNode))) (A0 : Option Addr) (c0 : Nat) (u0 : List Value) (r : (List (List TNode))) : Post := tPost (fun t : List Value => .tup []) (fun t => [.o (.slice A0 a0.length c0) a0.length t 30 1]) (fun t => [.r 1 (r.map dL_TNode_d) t])
theorem slices_Reverse_sRx_Rx_c (n : Nat) (Φ : Phi) (a0 : (List (List TNode))) (A0 : Option Addr) (c0 : Nat) (u0 : List Value) (H : Reps Φ [.r 1 (a0.map dL_TNode_d) u0]) : ∀ r, slices_Reverse_sRx_Rx n a0 = some r → CallG Try.prog 62 [.v (.slice A0 a0.length c0)] [.o (.slice A0 a0.length c0) a0.length u0 30 1] Φ ((slices_Reverse_sRx_Rx_p a0 A0 c0 u0) r) := by
 refine CallG.W Try.func62 fun E G β0 => ?_
 rw [slices_Reverse_sRx_Rx]
 refine W.lp 10 0 (fun m st => slices_Reverse_sRx_Rx_L0 n m st) (fun (st : (List (List TNode)) × Int × Int) (t : List Value) => ⟨fr 28 [(0, .v (.slice A0 st.1.length c0)), (2, .v (.int .i64 st.2.1)), (3, .v (.int .i64 st.2.2))], [.o (.slice A0 st.1.length c0) st.1.length t 30 1]⟩) (fun (st : (List (List TNode)) × Int × Int) (t : List Value) => [.r 1 (st.1.map dL_TNode_d) t]) (fun (st : (List (List TNode))) (t : List Value) => ⟨fr 28 [], [.o (.slice A0 st.length c0) st.length t 30 1]⟩) (fun (st : (List (List TNode))) (t : List Value) => [.r 1 (st.map dL_TNode_d) t]) _ (H.sub [0] rfl) (fun _ => rfl) ?_ ?_
 · rintro o0 y0_0 Φ H
   refine W.lnd fun h681 => ?_
   refine W.rln 0 0 [] (B := A0) (c := c0) (vs := y0_0) (t := 30) (sz := 1) h681 ?_
   exact W.ret 0 [0] _ [0] H
 · intro m0 ih0 kx0
   rintro ⟨x0_0, x0_1, x0_2⟩ t0_0 Φ H
   rw [slices_Reverse_sRx_Rx_L0]
   refine W.bs 7 [9] ?_ ?_
   · have H0 := H
     refine W.ixg fun e1 hze1 he1 => ?_
     refine W.ixg fun e2 hze2 he2 => ?_
     refine W.any2 13 6 10 ?_ ?_
     · refine W.ixo 0 0 0 .i64 (B := A0) (n := x0_0.length) (c := c0) (t := 30) hze1 he1 H (fun v281 H => ?_)
       refine W.any2 1 7 10 ?_ ?_
       · refine W.ldo 0 0 1 0 [true] (x := .row 7 e1.length (e1.map TNode.d)) (kk := 0) (B := A0) (n := x0_0.length) (c := c0) (t := 30) he1 H ?_
         intro A321 c322 H
         refine W.ixo 2 0 2 .i64 (B := A0) (n := x0_0.length) (c := c0) (t := 30) hze2 he2 H (fun v441 H => ?_)
         refine W.ldo 2 0 3 0 [true] (x := .row 7 e2.length (e2.map TNode.d)) (kk := 0) (B := A0) (n := x0_0.length) (c := c0) (t := 30) he2 H ?_
         intro A481 c482 H
         refine W.ixo 2 0 4 .i64 (B := A0) (n := x0_0.length) (c := c0) (t := 30) hze2 he2 H (fun v521 H => ?_)
         refine W.sro 2 0 5 0 (y := e1) (kk := 0) (ds := [.row 7 e1.length (e1.map TNode.d)]) (us := [.slice A321 e1.length c322]) (es := [.d (.row 7 e1.length (e1.map TNode.d)) (.slice A321 e1.length c322)]) (B := A0) (n := x0_0.length) (c := c0) (t := 30) he2 [3] H (fun l561 u562 H => ?_) ⟨rfl, trivial⟩
         refine W.rel 0 0 0 [0, 14, 16, 18, 22] (l := l561) (B := A0) (n := x0_0.length) (c := c0) (vs := u562) (t := 30) (sz := 1) H ?_
         refine W.ixg fun e601 hze601 he601 => ?_
         refine W.ixo 2 0 0 .i64 (B := A0) (n := l561.length) (c := c0) (t := 30) hze601 he601 H (fun v602 H => ?_)
         refine W.sro 2 0 1 0 (y := e2) (kk := 0) (ds := [.row 7 e2.length (e2.map TNode.d)]) (us := [.slice A481 e2.length c482]) (es := [.d (.row 7 e2.length (e2.map TNode.d)) (.slice A481 e2.length c482)]) (B := A0) (n := l561.length) (c := c0) (t := 30) he601 [3] H (fun l641 u642 H => ?_) ⟨rfl, trivial⟩
         refine W.rel 0 0 0 [0, 14, 16, 18, 22] (l := l641) (B := A0) (n := l561.length) (c := c0) (vs := u642) (t := 30) (sz := 1) H ?_
         exact W.to 11 (ih0 (l641, (w (x0_1 + 1)), (w (x0_2 - 1))) _ _ (H.sub [0] rfl))
       · skip
         refine W.ixo 0 0 1 .i64 (B := A0) (n := x0_0.length) (c := c0) (t := 30) hze2 he2 H (fun v441 H => ?_)
         refine W.any2 1 7 11 ?_ ?_
         · refine W.ldo 0 0 2 1 [true] (x := .row 7 e1.length (e1.map TNode.d)) (kk := 0) (B := A0) (n := x0_0.length) (c := c0) (t := 30) he1 H ?_
           intro A321 c322 H
           refine W.ldo 2 0 3 1 [true] (x := .row 7 e2.length (e2.map TNode.d)) (kk := 0) (B := A0) (n := x0_0.length) (c := c0) (t := 30) he2 H ?_
           intro A481 c482 H
           refine W.ixo 2 0 4 .i64 (B := A0) (n := x0_0.length) (c := c0) (t := 30) hze2 he2 H (fun v521 H => ?_)
           refine W.sro 2 0 5 0 (y := e1) (kk := 0) (ds := [.row 7 e1.length (e1.map TNode.d)]) (us := [.slice A321 e1.length c322]) (es := [.d (.row 7 e1.length (e1.map TNode.d)) (.slice A321 e1.length c322)]) (B := A0) (n := x0_0.length) (c := c0) (t := 30) he2 [2] H (fun l561 u562 H => ?_) ⟨rfl, trivial⟩
           refine W.rel 0 0 0 [0, 14, 16, 18, 22] (l := l561) (B := A0) (n := x0_0.length) (c := c0) (vs := u562) (t := 30) (sz := 1) H ?_
           refine W.ixg fun e601 hze601 he601 => ?_
           refine W.ixo 2 0 0 .i64 (B := A0) (n := l561.length) (c := c0) (t := 30) hze601 he601 H (fun v602 H => ?_)
           refine W.sro 2 0 1 0 (y := e2) (kk := 0) (ds := [.row 7 e2.length (e2.map TNode.d)]) (us := [.slice A481 e2.length c482]) (es := [.d (.row 7 e2.length (e2.map TNode.d)) (.slice A481 e2.length c482)]) (B := A0) (n := l561.length) (c := c0) (t := 30) he601 [3] H (fun l641 u642 H => ?_) ⟨rfl, trivial⟩
           refine W.rel 0 0 0 [0, 14, 16, 18, 22] (l := l641) (B := A0) (n := l561.length) (c := c0) (vs := u642) (t := 30) (sz := 1) H ?_
           exact W.to 11 (ih0 (l641, (w (x0_1 + 1)), (w (x0_2 - 1))) _ _ (H.sub [0] rfl))
         · skip
           refine W.ldo 0 0 2 0 [true] (x := .row 7 e2.length (e2.map TNode.d)) (kk := 0) (B := A0) (n := x0_0.length) (c := c0) (t := 30) he2 H ?_
           intro A481 c482 H
           refine W.ldo 2 0 3 2 [true] (x := .row 7 e1.length (e1.map TNode.d)) (kk := 0) (B := A0) (n := x0_0.length) (c := c0) (t := 30) he1 H ?_
           intro A321 c322 H
           refine W.ixo 2 0 4 .i64 (B := A0) (n := x0_0.length) (c := c0) (t := 30) hze2 he2 H (fun v521 H => ?_)
           refine W.sro 2 0 5 0 (y := e1) (kk := 0) (ds := [.row 7 e1.length (e1.map TNode.d)]) (us := [.slice A321 e1.length c322]) (es := [.d (.row 7 e1.length (e1.map TNode.d)) (.slice A321 e1.length c322)]) (B := A0) (n := x0_0.length) (c := c0) (t := 30) he2 [1] H (fun l561 u562 H => ?_) ⟨rfl, trivial⟩
           refine W.rel 0 0 0 [0, 14, 16, 18, 22] (l := l561) (B := A0) (n := x0_0.length) (c := c0) (vs := u562) (t := 30) (sz := 1) H ?_
           refine W.ixg fun e601 hze601 he601 => ?_
           refine W.ixo 2 0 0 .i64 (B := A0) (n := l561.length) (c := c0) (t := 30) hze601 he601 H (fun v602 H => ?_)
           refine W.sro 2 0 1 0 (y := e2) (kk := 0) (ds := [.row 7 e2.length (e2.map TNode.d)]) (us := [.slice A481 e2.length c482]) (es := [.d (.row 7 e2.length (e2.map TNode.d)) (.slice A481 e2.length c482)]) (B := A0) (n := l561.length) (c := c0) (t := 30) he601 [4] H (fun l641 u642 H => ?_) ⟨rfl, trivial⟩
           refine W.rel 0 0 0 [0, 14, 16, 18, 22] (l := l641) (B := A0) (n := l561.length) (c := c0) (vs := u642) (t := 30) (sz := 1) H ?_
           exact W.to 11 (ih0 (l641, (w (x0_1 + 1)), (w (x0_2 - 1))) _ _ (H.sub [0] rfl))
     · skip
       refine W.ixo 0 0 0 .i64 (B := A0) (n := x0_0.length) (c := c0) (t := 30) hze2 he2 H (fun v441 H => ?_)
       refine W.any2 1 6 11 ?_ ?_
       · refine W.ixo 0 0 1 .i64 (B := A0) (n := x0_0.length) (c := c0) (t := 30) hze1 he1 H (fun v281 H => ?_)
         refine W.any2 1 7 11 ?_ ?_
         · refine W.ldo 0 0 2 0 [true] (x := .row 7 e1.length (e1.map TNode.d)) (kk := 0) (B := A0) (n := x0_0.length) (c := c0) (t := 30) he1 H ?_
           intro A321 c322 H
           refine W.ldo 2 0 3 2 [true] (x := .row 7 e2.length (e2.map TNode.d)) (kk := 0) (B := A0) (n := x0_0.length) (c := c0) (t := 30) he2 H ?_
           intro A481 c482 H
           refine W.ixo 2 0 4 .i64 (B := A0) (n := x0_0.length) (c := c0) (t := 30) hze2 he2 H (fun v521 H => ?_)
           refine W.sro 2 0 5 0 (y := e1) (kk := 0) (ds := [.row 7 e1.length (e1.map TNode.d)]) (us := [.slice A321 e1.length c322]) (es := [.d (.row 7 e1.length (e1.map TNode.d)) (.slice A321 e1.length c322)]) (B := A0) (n := x0_0.length) (c := c0) (t := 30) he2 [2] H (fun l561 u562 H => ?_) ⟨rfl, trivial⟩
           refine W.rel 0 0 0 [0, 14, 16, 18, 22] (l := l561) (B := A0) (n := x0_0.length) (c := c0) (vs := u562) (t := 30) (sz := 1) H ?_
           refine W.ixg fun e601 hze601 he601 => ?_
           refine W.ixo 2 0 0 .i64 (B := A0) (n := l561.length) (c := c0) (t := 30) hze601 he601 H (fun v602 H => ?_)
           refine W.sro 2 0 1 0 (y := e2) (kk := 0) (ds := [.row 7 e2.length (e2.map TNode.d)]) (us := [.slice A481 e2.length c482]) (es := [.d (.row 7 e2.length (e2.map TNode.d)) (.slice A481 e2.length c482)]) (B := A0) (n := l561.length) (c := c0) (t := 30) he601 [3] H (fun l641 u642 H => ?_) ⟨rfl, trivial⟩
           refine W.rel 0 0 0 [0, 14, 16, 18, 22] (l := l641) (B := A0) (n := l561.length) (c := c0) (vs := u642) (t := 30) (sz := 1) H ?_
           exact W.to 11 (ih0 (l641, (w (x0_1 + 1)), (w (x0_2 - 1))) _ _ (H.sub [0] rfl))
         · skip
           refine W.ldo 0 0 2 1 [true] (x := .row 7 e2.length (e2.map TNode.d)) (kk := 0) (B := A0) (n := x0_0.length) (c := c0) (t := 30) he2 H ?_
           intro A481 c482 H
           refine W.ldo 2 0 3 1 [true] (x := .row 7 e1.length (e1.map TNode.d)) (kk := 0) (B := A0) (n := x0_0.length) (c := c0) (t := 30) he1 H ?_
           intro A321 c322 H
           refine W.ixo 2 0 4 .i64 (B := A0) (n := x0_0.length) (c := c0) (t := 30) hze2 he2 H (fun v521 H => ?_)
           refine W.sro 2 0 5 0 (y := e1) (kk := 0) (ds := [.row 7 e1.length (e1.map TNode.d)]) (us := [.slice A321 e1.length c322]) (es := [.d (.row 7 e1.length (e1.map TNode.d)) (.slice A321 e1.length c322)]) (B := A0) (n := x0_0.length) (c := c0) (t := 30) he2 [1] H (fun l561 u562 H => ?_) ⟨rfl, trivial⟩
           refine W.rel 0 0 0 [0, 14, 16, 18, 22] (l := l561) (B := A0) (n := x0_0.length) (c := c0) (vs := u562) (t := 30) (sz := 1) H ?_
           refine W.ixg fun e601 hze601 he601 => ?_
           refine W.ixo 2 0 0 .i64 (B := A0) (n := l561.length) (c := c0) (t := 30) hze601 he601 H (fun v602 H => ?_)
           refine W.sro 2 0 1 0 (y := e2) (kk := 0) (ds := [.row 7 e2.length (e2.map TNode.d)]) (us := [.slice A481 e2.length c482]) (es := [.d (.row 7 e2.length (e2.map TNode.d)) (.slice A481 e2.length c482)]) (B := A0) (n := l561.length) (c := c0) (t := 30) he601 [4] H (fun l641 u642 H => ?_) ⟨rfl, trivial⟩
           refine W.rel 0 0 0 [0, 14, 16, 18, 22] (l := l641) (B := A0) (n := l561.length) (c := c0) (vs := u642) (t := 30) (sz := 1) H ?_
           exact W.to 11 (ih0 (l641, (w (x0_1 + 1)), (w (x0_2 - 1))) _ _ (H.sub [0] rfl))
       · skip
         refine W.ldo 0 0 1 0 [true] (x := .row 7 e2.length (e2.map TNode.d)) (kk := 0) (B := A0) (n := x0_0.length) (c := c0) (t := 30) he2 H ?_
         intro A481 c482 H
         refine W.ixo 2 0 2 .i64 (B := A0) (n := x0_0.length) (c := c0) (t := 30) hze1 he1 H (fun v281 H => ?_)
         refine W.ldo 2 0 3 0 [true] (x := .row 7 e1.length (e1.map TNode.d)) (kk := 0) (B := A0) (n := x0_0.length) (c := c0) (t := 30) he1 H ?_
         intro A321 c322 H
         refine W.ixo 2 0 4 .i64 (B := A0) (n := x0_0.length) (c := c0) (t := 30) hze2 he2 H (fun v521 H => ?_)
         refine W.sro 2 0 5 0 (y := e1) (kk := 0) (ds := [.row 7 e1.length (e1.map TNode.d)]) (us := [.slice A321 e1.length c322]) (es := [.d (.row 7 e1.length (e1.map TNode.d)) (.slice A321 e1.length c322)]) (B := A0) (n := x0_0.length) (c := c0) (t := 30) he2 [1] H (fun l561 u562 H => ?_) ⟨rfl, trivial⟩
         refine W.rel 0 0 0 [0, 14, 16, 18, 22] (l := l561) (B := A0) (n := x0_0.length) (c := c0) (vs := u562) (t := 30) (sz := 1) H ?_
         refine W.ixg fun e601 hze601 he601 => ?_
         refine W.ixo 2 0 0 .i64 (B := A0) (n := l561.length) (c := c0) (t := 30) hze601 he601 H (fun v602 H => ?_)
         refine W.sro 2 0 1 0 (y := e2) (kk := 0) (ds := [.row 7 e2.length (e2.map TNode.d)]) (us := [.slice A481 e2.length c482]) (es := [.d (.row 7 e2.length (e2.map TNode.d)) (.slice A481 e2.length c482)]) (B := A0) (n := l561.length) (c := c0) (t := 30) he601 [5] H (fun l641 u642 H => ?_) ⟨rfl, trivial⟩
         refine W.rel 0 0 0 [0, 14, 16, 18, 22] (l := l641) (B := A0) (n := l561.length) (c := c0) (vs := u642) (t := 30) (sz := 1) H ?_
         exact W.to 11 (ih0 (l641, (w (x0_1 + 1)), (w (x0_2 - 1))) _ _ (H.sub [0] rfl))
   · exact W.to 2 (kx0 x0_0 _ _ (H.sub [0] rfl))
def rx_Parts_1_p (a0 : (List TNode)) (b0 : Nat) (A1 : Option Addr) (c2 : Nat) (r : (List (List TNode))) : Post := tPost (fun t : Option Addr × Nat × List Value => .v (.slice t.1 r.length t.2.1)) (fun t => [.f b0 [.slice A1 a0.length c2] 30, .o (.slice t.1 r.length t.2.1) r.length t.2.2 30 1]) (fun t => [.r 1 (r.map dL_TNode_d) t.2.2])
theorem rx_Parts_1_c (n : Nat) (Φ : Phi) (a0 : (List TNode)) (b0 : Nat) (A1 : Option Addr) (c2 : Nat) (H : Reps Φ [.d (.row 7 a0.length (a0.map TNode.d)) (.slice A1 a0.length c2)]) : ∀ r, rx_Parts_1 n a0 = some r → CallG Try.prog 61 [.p 0 0] [.f b0 [.slice A1 a0.length c2] 30] Φ ((ePost 33 1 (rx_Parts_1_p a0 b0 A1 c2)) r) := by
 refine CallG.W Try.func61 fun E G β0 => ?_
 have hP := PanK.body (Γ := ⟨Try.prog, E, G, Φ, β0, 1, [], none⟩) (fn := Try.f61) (T := 33) (p := rx_Parts_1_p a0 b0 A1 c2) rfl
 rw [rx_Parts_1]
 refine W.callE 7 [] hP H (rx_of_c n _ _ A1 c2 (H.sub [0] rfl)) ?_
 rintro x3 ⟨A4, c5⟩ Φ - H
 refine W.ix 13 1 .i64 H (fun e6 v7 H => ?_)
 refine W.ld 0 0 [] H ?_
 intro H
 refine W.call 0 [] H (rx_known_c n _ _  (H.sub [] rfl)) ?_
 rintro x8 (none | ⟨v10, v11⟩) Φ - H
 · refine W.fz 14 1 H (fun g12 Φ H => ?_)
   refine W.unf1 0 24 1 0 ?_
   refine W.mf 0 (.func (.func 59) #[.pointer (some ⟨g12, 0, none⟩)] #[]) ?_
   refine W.unf1 1 26 1 0 ?_
   refine W.mf 0 (.func (.func 58) #[.pointer (some ⟨g12, 0, none⟩)] #[]) ?_
   refine W.nl 11 30 1 ?_
   replace H := Reps.nilR (enc := dL_TNode_d) (sz := 1) H
   refine W.lp 0 0 (fun m st => rx_Parts_1_L0 n x3 x8 m st) (fun (st : (List (List TNode)) × Int) (t : Option Addr × Nat × List Value) => ⟨fr 49 [(4, .p 2 0), (6, .v (.slice t.1 st.1.length t.2.1)), (7, .v (.func (.func 59) #[.pointer (some ⟨g12, 0, none⟩)] #[])), (8, .v (.func (.func 58) #[.pointer (some ⟨g12, 0, none⟩)] #[])), (9, .v (.int .i64 st.2))], [.f b0 [.slice A1 a0.length c2] 30, .f g12 [.slice A4 x3.length c5] 71, .c [.v (.int .i64 x8.1), .v (.nilFunc), .v (.nilFunc)] 76, .o (.slice t.1 st.1.length t.2.1) st.1.length t.2.2 30 1]⟩) (fun (st : (List (List TNode)) × Int) (t : Option Addr × Nat × List Value) => [.r 1 (st.1.map dL_TNode_d) t.2.2, .d (.row 7 a0.length (a0.map TNode.d)) (.slice A1 a0.length c2), .d (.row 7 x3.length (x3.map TNode.d)) (.slice A4 x3.length c5)]) (fun (st : (List (List TNode))) (t : Option Addr × Nat × List Value) => ⟨fr 49 [(6, .v (.slice t.1 st.length t.2.1))], [.f b0 [.slice A1 a0.length c2] 30, .dead, .dead, .o (.slice t.1 st.length t.2.1) st.length t.2.2 30 1]⟩) (fun (st : (List (List TNode))) (t : Option Addr × Nat × List Value) => [.r 1 (st.map dL_TNode_d) t.2.2, .d (.row 7 a0.length (a0.map TNode.d)) (.slice A1 a0.length c2)]) (none, 0, _) (H.sub [0, 3, 2] rfl) (fun _ => rfl) ?_ ?_
   · rintro o0 ⟨y0_0, y0_1, y0_2⟩ Φ H
     refine W.call 3 [3] H (slices_Reverse_sRx_Rx_c n _ _ y0_0 y0_1 y0_2 (H.sub [0] rfl)) ?_
     rintro x23 u24 Φ - H
     refine W.rel 0 3 0 [6, 46] (l := x23) (B := y0_0) (n := o0.length) (c := y0_1) (vs := u24) (t := 30) (sz := 1) H ?_
     exact W.ret 6 [0, 3] (y0_0, y0_1, _) [0] H
   · intro m0 ih0 kx0
     rintro ⟨x0_0, x0_1⟩ ⟨t0_0, t0_1, t0_2⟩ Φ H
     rw [rx_Parts_1_L0]
     refine W.bs 9 [33] ?_ ?_
     · refine W.callU 8 [1] H (rx_tree_begin_c n _ _ _ g12 A4 c5 (H.sub [2] rfl)) ?_
       rintro x13 ⟨⟩ Φ - H
       refine W.callU 8 [1] H (rx_tree_cut_c _ _ _ _ g12 A4 c5 (H.sub [2] rfl)) ?_
       rintro x14 ⟨A15, c16, u17⟩ Φ - H
       refine W.fr (B := A15) (n := x14.length) (c := c16) (t := 26) 1 4 0 H (fun Φ H => ?_)
       refine W.row 0 5 dL_TNode_d [x14] [[0]] 1 H (fun g18 H => ?_)
       refine W.apO (V := .slice t0_0 x0_0.length t0_1) (t := 30) (B' := (some (⟨g18, 0, none⟩ : Addr))) (n := 1) (C' := 1) 0 3 5 3 0 H (fun l19 A20 c21 u22 H => ?_)
       exact W.to 7 (ih0 (l19, x13) (A20, c21, _) _ (H.sub [0, 5, 6] rfl))
     · exact W.to 2 (kx0 x0_0 (t0_0, t0_1, _) _ (H.sub [0, 1] rfl))
 · skip
   refine W.fz 14 1 H (fun g12 Φ H => ?_)
   refine W.unf1 0 24 1 0 ?_
   refine W.mf 0 (.func (.func 59) #[.pointer (some ⟨g12, 0, none⟩)] #[]) ?_
   refine W.unf1 1 26 1 0 ?_
   refine W.mf 0 (.func (.func 58) #[.pointer (some ⟨g12, 0, none⟩)] #[]) ?_
   refine W.nl 11 30 1 ?_
   replace H := Reps.nilR (enc := dL_TNode_d) (sz := 1) H
   refine W.lp 0 0 (fun m st => rx_Parts_1_L0 n x3 x8 m st) (fun (st : (List (List TNode)) × Int) (t : Option Addr × Nat × List Value) => ⟨fr 49 [(4, .p 2 0), (6, .v (.slice t.1 st.1.length t.2.1)), (7, .v (.func (.func 59) #[.pointer (some ⟨g12, 0, none⟩)] #[])), (8, .v (.func (.func 58) #[.pointer (some ⟨g12, 0, none⟩)] #[])), (9, .v (.int .i64 st.2))], [.f b0 [.slice A1 a0.length c2] 30, .f g12 [.slice A4 x3.length c5] 71, .c [.v (.int .i64 x8.1), .v (.func (.func v10) #[] #[]), .v (.func (.func v11) #[] #[])] 76, .o (.slice t.1 st.1.length t.2.1) st.1.length t.2.2 30 1]⟩) (fun (st : (List (List TNode)) × Int) (t : Option Addr × Nat × List Value) => [.r 1 (st.1.map dL_TNode_d) t.2.2, .d (.row 7 a0.length (a0.map TNode.d)) (.slice A1 a0.length c2), .d (.row 7 x3.length (x3.map TNode.d)) (.slice A4 x3.length c5)]) (fun (st : (List (List TNode))) (t : Option Addr × Nat × List Value) => ⟨fr 49 [(6, .v (.slice t.1 st.length t.2.1))], [.f b0 [.slice A1 a0.length c2] 30, .dead, .dead, .o (.slice t.1 st.length t.2.1) st.length t.2.2 30 1]⟩) (fun (st : (List (List TNode))) (t : Option Addr × Nat × List Value) => [.r 1 (st.map dL_TNode_d) t.2.2, .d (.row 7 a0.length (a0.map TNode.d)) (.slice A1 a0.length c2)]) (none, 0, _) (H.sub [0, 3, 2] rfl) (fun _ => rfl) ?_ ?_
   · rintro o0 ⟨y0_0, y0_1, y0_2⟩ Φ H
     refine W.call 3 [3] H (slices_Reverse_sRx_Rx_c n _ _ y0_0 y0_1 y0_2 (H.sub [0] rfl)) ?_
     rintro x23 u24 Φ - H
     refine W.rel 0 3 0 [6, 46] (l := x23) (B := y0_0) (n := o0.length) (c := y0_1) (vs := u24) (t := 30) (sz := 1) H ?_
     exact W.ret 6 [0, 3] (y0_0, y0_1, _) [0] H
   · intro m0 ih0 kx0
     rintro ⟨x0_0, x0_1⟩ ⟨t0_0, t0_1, t0_2⟩ Φ H
     rw [rx_Parts_1_L0]
     refine W.bs 9 [33] ?_ ?_
     · refine W.callU 8 [1] H (rx_tree_begin_c n _ _ _ g12 A4 c5 (H.sub [2] rfl)) ?_
       rintro x13 ⟨⟩ Φ - H
       refine W.callU 8 [1] H (rx_tree_cut_c _ _ _ _ g12 A4 c5 (H.sub [2] rfl)) ?_
       rintro x14 ⟨A15, c16, u17⟩ Φ - H
       refine W.fr (B := A15) (n := x14.length) (c := c16) (t := 26) 1 4 0 H (fun Φ H => ?_)
       refine W.row 0 5 dL_TNode_d [x14] [[0]] 1 H (fun g18 H => ?_)
       refine W.apO (V := .slice t0_0 x0_0.length t0_1) (t := 30) (B' := (some (⟨g18, 0, none⟩ : Addr))) (n := 1) (C' := 1) 0 3 5 3 0 H (fun l19 A20 c21 u22 H => ?_)
       exact W.to 7 (ih0 (l19, x13) (A20, c21, _) _ (H.sub [0, 5, 6] rfl))
     · exact W.to 2 (kx0 x0_0 (t0_0, t0_1, _) _ (H.sub [0, 1] rfl))
def rx_tries_sRx_p (a0 : (List TNode)) (b0 : Nat) (A1 : Option Addr) (c2 : Nat) (r : (List (List TNode)) × Int) : Post := tPost (fun t : Option Addr × Nat × List Value => .tup [.v (.slice t.1 r.1.length t.2.1), .v (.int .i64 r.2)]) (fun t => [.f b0 [.slice A1 a0.length c2] 30, .o (.slice t.1 r.1.length t.2.1) r.1.length t.2.2 30 1]) (fun t => [.r 1 (r.1.map dL_TNode_d) t.2.2])
theorem rx_tries_sRx_c (n : Nat) (Φ : Phi) (a0 : (List TNode)) (b0 : Nat) (A1 : Option Addr) (c2 : Nat) (H : Reps Φ [.d (.row 7 a0.length (a0.map TNode.d)) (.slice A1 a0.length c2)]) : ∀ r, rx_tries_sRx n a0 = some r → CallG Try.prog 60 [.fn (.func 61) [.p 0 0]] [.f b0 [.slice A1 a0.length c2] 30] Φ ((rx_tries_sRx_p a0 b0 A1 c2) r) := by
 refine CallG.WN Try.func60 fun E G β0 => ?_
 rw [rx_tries_sRx]
 refine WN.unf 0 0 ?_
 refine WN.tr 8 1 1 1 [.slice none 0 0] (fun g3 => ?_)
 refine WN.tr 0 2 1 1 [.int .i64 0] (fun g4 => ?_)
 refine WN.defer 0 89 #[.pointer (some ⟨g3, 0, none⟩), .pointer (some ⟨g4, 0, none⟩)] ?_
 refine WN.nl 4 30 1 ?_
 replace H := Reps.nilR (enc := dL_TNode_d) (sz := 1) H
 refine WN.callD 0 [0] H (rx_Parts_1_c n _ _ b0 A1 c2 (H.sub [1] rfl)) ?_ ?_
 · rintro x5 ⟨A6, c7, u8⟩ Φ - H
   refine WN.sto 0 1 ?_
   refine WN.sto 0 2 ?_
   refine WN.retD 1 89 #[.pointer (some ⟨g3, 0, none⟩), .pointer (some ⟨g4, 0, none⟩)] Try.func89 (fun E2 G2 β2 => ?_)
   refine W.nn 3 false ?_
   exact W.endD 3 1 2 [0, 4] (A6, c7, _) [0] H
 · intro e9 Φ H r hr
   cases hr
   refine WN.panD 0 89 #[.pointer (some ⟨g3, 0, none⟩), .pointer (some ⟨g4, 0, none⟩)] Try.func89 (fun E2 G2 β2 => ?_)
   refine W.ta 9 (.int .i64 e9) ?_
   refine W.sto 21 1 ?_
   refine W.sto 0 2 ?_
   exact W.endD 1 1 2 [0, 3] (none, 0, _) [0] H
def rx_Parts_p (a0 : (List TNode)) (A1 : Option Addr) (c2 : Nat) (r : (List (List TNode)) × Int) : Post := tPost (fun t : Option Addr × Nat × List Value => .tup [.v (.slice t.1 r.1.length t.2.1), .v (.int .i64 r.2)]) (fun t => [.o (.slice t.1 r.1.length t.2.1) r.1.length t.2.2 30 1]) (fun t => [.r 1 (r.1.map dL_TNode_d) t.2.2])
theorem rx_Parts_c (n : Nat) (Φ : Phi) (a0 : (List TNode)) (A1 : Option Addr) (c2 : Nat) (H : Reps Φ [.d (.row 7 a0.length (a0.map TNode.d)) (.slice A1 a0.length c2)]) : ∀ r, rx_Parts n a0 = some r → CallG Try.prog 24 [.v (.slice A1 a0.length c2)] [] Φ ((rx_Parts_p a0 A1 c2) r) := by
 refine CallG.W Try.func24 fun E G β0 => ?_
 rw [rx_Parts]
 refine W.fz 9 0 H (fun g3 Φ H => ?_)
 refine W.call 0 [0] H (rx_tries_sRx_c n _ _ g3 A1 c2 (H.sub [0] rfl)) ?_
 rintro x4 ⟨A5, c6, u7⟩ Φ - H
 exact W.ret 5 [1] (A5, c6, _) [0] H
def slices_Grow_Rx_Node_p (a0 : Int)  (r : (List TNode)) : Post := tPost (fun t : Option Addr × Nat × List Value => .v (.slice t.1 r.length t.2.1)) (fun t => [.o (.slice t.1 r.length t.2.1) r.length t.2.2 26 7]) (fun t => [.r 7 (r.map TNode.d) t.2.2])
theorem slices_Grow_Rx_Node_c (Φ : Phi) (a0 : Int)  (H : Reps Φ []) : ∀ r, slices_Grow_Rx_Node a0 = some r → CallG Try.prog 74 [.v (.slice none 0 0), .v (.int .i64 a0)] [] Φ ((slices_Grow_Rx_Node_p a0) r) := by
 refine CallG.W Try.func74 fun E G β0 => ?_
 rw [slices_Grow_Rx_Node]
 refine W.bs 10 [6] ?_ ?_
 · exact W.no
 · refine W.cap 7 0 ?_
   refine W.bs 11 [16] ?_ ?_
   · refine W.cap 4 0 ?_
     refine W.nsl 0 ?_ 7
     refine W.gz (enc := TNode.d) (e := 26) (sz := 7) 1 (⟨0, (⟨0, 0, 0, 0⟩ : Ar4_dI_u64), 0, 0⟩ : TNode) [] H (fun l1 g2 c3 u4 H => ?_)
     refine W.osl (B := (some (⟨g2, 0, none⟩ : Addr))) (c := c3) (t := 26) 2 0 0 H (fun l5 u6 H => ?_)
     exact W.ret 7 [0] ((some (⟨g2, 0, none⟩ : Addr)), c3, _) [0] H
   · refine W.nl 7 26 7 ?_
     replace H := Reps.nilR (enc := TNode.d) (sz := 7) H
     exact W.ret 0 [0] (none, 0, _) [0] H
def slices_Concat_Rx_Node_p (a0 : (List (List TNode))) (A1 : Option Addr) (c2 : Nat) (r : (List TNode)) : Post := tPost (fun t : Option Addr × Nat × List Value => .v (.slice t.1 r.length t.2.1)) (fun t => [.o (.slice t.1 r.length t.2.1) r.length t.2.2 26 7]) (fun t => [.r 7 (r.map TNode.d) t.2.2])
theorem slices_Concat_Rx_Node_c (n : Nat) (Φ : Phi) (a0 : (List (List TNode))) (A1 : Option Addr) (c2 : Nat) (H : Reps Φ [.d (.row 1 a0.length (a0.map dL_TNode_d)) (.slice A1 a0.length c2)]) : ∀ r, slices_Concat_Rx_Node n a0 = some r → CallG Try.prog 48 [.v (.slice A1 a0.length c2)] [] Φ ((slices_Concat_Rx_Node_p a0 A1 c2) r) := by
 refine CallG.W Try.func48 fun E G β0 => ?_
 rw [slices_Concat_Rx_Node]
 refine W.lp 17 0 (fun m st => slices_Concat_Rx_Node_L0 n a0 m st) (fun (st : Int × Int) (t : Unit) => ⟨fr 36 [(0, .v (.slice A1 a0.length c2)), (3, .v (.int .i64 st.1)), (9, .v (.slice A1 a0.length c2)), (10, .v (.int .i64 (a0.length : Int))), (11, .v (.int .i64 st.2))], []⟩) (fun (st : Int × Int) (t : Unit) => [.d (.row 1 a0.length (a0.map dL_TNode_d)) (.slice A1 a0.length c2)]) (fun (st : Int) (t : Unit) => ⟨fr 36 [(0, .v (.slice A1 a0.length c2)), (3, .v (.int .i64 st))], []⟩) (fun (st : Int) (t : Unit) => [.d (.row 1 a0.length (a0.map dL_TNode_d)) (.slice A1 a0.length c2)]) () (H.sub [0] rfl) (fun _ => rfl) ?_ ?_
 · rintro o0 ⟨⟩ Φ H
   refine W.call 3 [] H (slices_Grow_Rx_Node_c _ _  (H.sub [] rfl)) ?_
   rintro x7 ⟨A8, c9, u10⟩ Φ - H
   refine W.lp 11 2 (fun m st => slices_Concat_Rx_Node_L1 n a0 m st) (fun (st : (List TNode) × Int) (t : Option Addr × Nat × List Value) => ⟨fr 36 [(6, .v (.slice t.1 st.1.length t.2.1)), (25, .v (.slice A1 a0.length c2)), (26, .v (.int .i64 (a0.length : Int))), (27, .v (.int .i64 st.2))], [.o (.slice t.1 st.1.length t.2.1) st.1.length t.2.2 26 7]⟩) (fun (st : (List TNode) × Int) (t : Option Addr × Nat × List Value) => [.r 7 (st.1.map TNode.d) t.2.2, .d (.row 1 a0.length (a0.map dL_TNode_d)) (.slice A1 a0.length c2)]) (fun (st : (List TNode)) (t : Option Addr × Nat × List Value) => ⟨fr 36 [(6, .v (.slice t.1 st.length t.2.1))], [.o (.slice t.1 st.length t.2.1) st.length t.2.2 26 7]⟩) (fun (st : (List TNode)) (t : Option Addr × Nat × List Value) => [.r 7 (st.map TNode.d) t.2.2]) (A8, c9, _) (H.sub [0, 1] rfl) (fun _ => rfl) ?_ ?_
   · rintro o1 ⟨y1_0, y1_1, y1_2⟩ Φ H
     exact W.ret 5 [0] (y1_0, y1_1, _) [0] H
   · intro m1 ih1 kx1
     rintro ⟨x1_0, x1_1⟩ ⟨t1_0, t1_1, t1_2⟩ Φ H
     rw [slices_Concat_Rx_Node_L1]
     refine W.bs 5 [28] ?_ ?_
     · refine W.ix 6 1 .i64 H (fun e11 v12 H => ?_)
       refine W.ld 0 0 [true] H ?_
       intro A13 c14 H
       refine W.apD (V := .slice t1_0 x1_0.length t1_1) (t := 26) 5 0 2 0 H (fun l15 A16 c17 u18 H => ?_)
       exact W.to 7 (ih1 (l15, (w (x1_1 + 1))) (A16, c17, _) _ (H.sub [0, 4] rfl))
     · exact W.to 2 (kx1 x1_0 (t1_0, t1_1, _) _ (H.sub [0] rfl))
 · intro m0 ih0 kx0
   rintro ⟨x0_0, x0_1⟩ ⟨⟩ Φ H
   rw [slices_Concat_Rx_Node_L0]
   refine W.bs 5 [12] ?_ ?_
   · refine W.ix 6 0 .i64 H (fun e3 v4 H => ?_)
     refine W.ld 0 0 [true] H ?_
     intro A5 c6 H
     refine W.bs 15 [20] ?_ ?_
     · exact W.no
     · exact W.to 7 (ih0 ((w (x0_0 + (e3.length : Int))), (w (x0_1 + 1))) () _ (H.sub [2] rfl))
   · exact W.to 2 (kx0 x0_0 () _ (H.sub [0] rfl))
def rx_Norm_1_p (a0 : TNode) (a1 : (List (List TNode))) (A1 : Option Addr) (c2 : Nat) (r : (List TNode)) : Post := tPost (fun t : Option Addr × Nat × List Value => .v (.slice t.1 r.length t.2.1)) (fun t => [.o (.slice t.1 r.length t.2.1) r.length t.2.2 26 7]) (fun t => [.r 7 (r.map TNode.d) t.2.2])
theorem rx_Norm_1_c (n : Nat) (Φ : Phi) (a0 : TNode) (a1 : (List (List TNode))) (A1 : Option Addr) (c2 : Nat) (H : Reps Φ [.d (.row 1 a1.length (a1.map dL_TNode_d)) (.slice A1 a1.length c2)]) : ∀ r, rx_Norm_1 n a0 a1 = some r → CallG Try.prog 47 [.agg [.v (.int .i64 a0.Kind), .v (.int .u64 a0.Set.e0), .v (.int .u64 a0.Set.e1), .v (.int .u64 a0.Set.e2), .v (.int .u64 a0.Set.e3), .v (.int .i64 a0.Min), .v (.int .i64 a0.Max)], .v (.slice A1 a1.length c2)] [] Φ ((rx_Norm_1_p a0 a1 A1 c2) r) := by
 refine CallG.W Try.func47 fun E G β0 => ?_
 rw [rx_Norm_1]
 refine W.bs 12 [7, 8] ?_ ?_
 · refine W.bs 5 [11, 12] ?_ ?_
   · refine W.row 7 1 TNode.d [(⟨2, (⟨0, 0, 0, 0⟩ : Ar4_dI_u64), 0, 0⟩ : TNode)] [[]] 7 H (fun g3 H => ?_)
     exact W.ret 0 [1] ((some (⟨g3, 0, none⟩ : Addr)), 1, _) [0] H
   · refine W.fz 3 0 H (fun g4 Φ H => ?_)
     have H0 := H
     refine W.any2 3 1 3 ?_ ?_
     · refine W.call 0 [] H (slices_Concat_Rx_Node_c n _ _ A1 c2 (H.sub [0] rfl)) ?_
       rintro x85 ⟨A86, c87, u88⟩ Φ - H
       refine W.row 5 2 TNode.d [a0] [[]] 7 H (fun g205 H => ?_)
       refine W.apO (V := .slice A86 x85.length c87) (t := 26) (B' := (some (⟨g205, 0, none⟩ : Addr))) (n := 1) (C' := 1) 0 1 2 1 0 H (fun l206 A207 c208 u209 H => ?_)
       exact W.ret 3 [1] (A207, c208, _) [0] H
     · skip
       refine W.call 3 [] H (slices_Concat_Rx_Node_c n _ _ A1 c2 (H.sub [0] rfl)) ?_
       rintro x85 ⟨A86, c87, u88⟩ Φ - H
       refine W.row 2 1 TNode.d [a0] [[]] 7 H (fun g205 H => ?_)
       refine W.apO (V := .slice A86 x85.length c87) (t := 26) (B' := (some (⟨g205, 0, none⟩ : Addr))) (n := 1) (C' := 1) 0 2 1 1 0 H (fun l206 A207 c208 u209 H => ?_)
       exact W.ret 3 [2] (A207, c208, _) [0] H
 · refine W.fz 8 0 H (fun g285 Φ H => ?_)
   have H0 := H
   refine W.any2 3 1 3 ?_ ?_
   · refine W.call 0 [] H (slices_Concat_Rx_Node_c n _ _ A1 c2 (H.sub [0] rfl)) ?_
     rintro x366 ⟨A367, c368, u369⟩ Φ - H
     refine W.row 5 2 TNode.d [a0] [[]] 7 H (fun g486 H => ?_)
     refine W.apO (V := .slice A367 x366.length c368) (t := 26) (B' := (some (⟨g486, 0, none⟩ : Addr))) (n := 1) (C' := 1) 0 1 2 1 0 H (fun l487 A488 c489 u490 H => ?_)
     exact W.ret 3 [1] (A488, c489, _) [0] H
   · skip
     refine W.call 3 [] H (slices_Concat_Rx_Node_c n _ _ A1 c2 (H.sub [0] rfl)) ?_
     rintro x366 ⟨A367, c368, u369⟩ Φ - H
     refine W.row 2 1 TNode.d [a0] [[]] 7 H (fun g486 H => ?_)
     refine W.apO (V := .slice A367 x366.length c368) (t := 26) (B' := (some (⟨g486, 0, none⟩ : Addr))) (n := 1) (C' := 1) 0 2 1 1 0 H (fun l487 A488 c489 u490 H => ?_)
     exact W.ret 3 [2] (A488, c489, _) [0] H
def rx_folded_Rx__1_p (Φ0 : Phi) (a0 : (List TNode)) (b0 : Nat) (A1 : Option Addr) (c2 : Nat) (b1 : Nat) (r : (List TNode)) : Post := tPost (fun t : Option Addr × Nat => .v (.slice t.1 r.length t.2)) (fun t => [.f b0 [.slice A1 a0.length c2] 30, .f b1 [.func (.func 47) #[] #[]] 38]) (fun t => [.d (.frow Φ0 26 7 r.length (r.map TNode.d)) (.slice t.1 r.length t.2)])
theorem rx_folded_Rx__1_c (n : Nat) (Φ0 : Phi) (a0 : (List TNode)) (b0 : Nat) (A1 : Option Addr) (c2 : Nat) (b1 : Nat) (H : Reps Φ0 [.d (.row 7 a0.length (a0.map TNode.d)) (.slice A1 a0.length c2)]) : ∀ r, rx_folded_Rx__1 n a0 = some r → CallG Try.prog 73 [.p 0 0, .p 1 0] [.f b0 [.slice A1 a0.length c2] 30, .f b1 [.func (.func 47) #[] #[]] 38] Φ0 ((ePost 33 2 (rx_folded_Rx__1_p Φ0 a0 b0 A1 c2 b1)) r) := by
 refine CallG.W Try.func73 fun E G β0 => ?_
 have hP := PanK.body (Γ := ⟨Try.prog, E, G, Φ0, β0, 2, [], none⟩) (fn := Try.f73) (T := 33) (p := rx_folded_Rx__1_p Φ0 a0 b0 A1 c2 b1) rfl
 rw [rx_folded_Rx__1]
 replace H := Reps.le0 H
 refine W.callE 12 [] hP H (rx_of_c n _ _ A1 c2 (H.sub [1] rfl)) ?_
 rintro x3 ⟨A4, c5⟩ Φ - H
 refine W.nl 8 30 1 ?_
 replace H := Reps.nilR (enc := (dF_TNode_d Φ0)) (sz := 1) H
 refine W.lp 0 0 (fun m st => rx_folded_Rx__1_L0 n x3 m st) (fun (st : (List (List TNode)) × Int) (t : Option Addr × Nat × List Value) => ⟨fr 46 [(1, .p 1 0), (3, .v (.slice t.1 st.1.length t.2.1)), (14, .v (.slice A4 x3.length c5)), (15, .v (.int .i64 (x3.length : Int))), (16, .v (.int .i64 st.2))], [.f b0 [.slice A1 a0.length c2] 30, .f b1 [.func (.func 47) #[] #[]] 38, .dead, .o (.slice t.1 st.1.length t.2.1) st.1.length t.2.2 30 1]⟩) (fun (st : (List (List TNode)) × Int) (t : Option Addr × Nat × List Value) => [.r 1 (st.1.map (dF_TNode_d Φ0)) t.2.2, .d (.row 7 x3.length (x3.map TNode.d)) (.slice A4 x3.length c5), .d (.row 7 a0.length (a0.map TNode.d)) (.slice A1 a0.length c2), .le Φ0]) (fun (st : (List (List TNode))) (t : Option Addr × Nat × List Value) => ⟨fr 46 [(3, .v (.slice t.1 st.length t.2.1))], [.f b0 [.slice A1 a0.length c2] 30, .f b1 [.func (.func 47) #[] #[]] 38, .dead, .o (.slice t.1 st.length t.2.1) st.length t.2.2 30 1]⟩) (fun (st : (List (List TNode))) (t : Option Addr × Nat × List Value) => [.r 1 (st.map (dF_TNode_d Φ0)) t.2.2, .d (.row 7 a0.length (a0.map TNode.d)) (.slice A1 a0.length c2), .le Φ0]) (none, 0, _) (H.sub [0, 1, 3, 2] rfl) (fun _ => rfl) ?_ ?_
 · rintro o0 ⟨y0_0, y0_1, y0_2⟩ Φ H
   refine W.rdo 3 3 0 .i64 [true] (B := y0_0) (n := o0.length) (c := y0_1) (t := 30) H ?_
   intro e341 v342 A343 c344 H
   exact W.ret 2 [0, 1] (A343, c344) [0] H
 · intro m0 ih0 kx0
   rintro ⟨x0_0, x0_1⟩ ⟨t0_0, t0_1, t0_2⟩ Φ H
   rw [rx_folded_Rx__1_L0]
   refine W.bs 5 [17] ?_ ?_
   · refine W.ix 6 1 .i64 H (fun e6 v7 H => ?_)
     refine W.ld 0 0 [] H ?_
     intro H
     refine W.call 6 [] H (rx_known_c n _ _  (H.sub [] rfl)) ?_
     rintro x8 (none | ⟨v10, v11⟩) Φ - H
     · refine W.fz 17 4 H (fun g12 Φ H => ?_)
       refine W.fz 0 5 H (fun g13 Φ H => ?_)
       have H0 := H
       refine W.als (B := t0_0) (c := t0_1) (t := 30) 6 3 1 H (fun l214 A215 c216 H => ?_)
       replace H := Reps.addWa (enc := (dF_TNode_d Φ0)) (enc' := dL_TNode_d) (fun _ _ _ h => Rc.weak h) H 0
       refine W.callT 2 [(0, 3)] H (fun Φ H => rx_Norm_1_c n _ _ _ A215 c216 (H.sub [0] rfl)) ?_ ⟨⟨_, x0_0.length, t0_1, _, 30, 1, _, _, _, _, _, by kernel_rfl, rfl⟩, trivial⟩ (fun _ _ _ h => ⟨Rr.flatm (fun _ => by kernel_rfl) h.1, trivial⟩)
       rintro x254 ⟨A255, c256, u257⟩ - H
       refine W.osl (B := t0_0) (c := t0_1) (t := 30) 6 3 4 H (fun l334 u335 H => ?_)
       refine W.frF (B := A255) (n := x254.length) (c := c256) (t := 26) 2 6 1 8 H (fun Φ H => ?_)
       refine W.row 0 7 (dF_TNode_d Φ0) [x254] [[0]] 1 H (fun g336 H => ?_)
       refine W.apO (V := .slice t0_0 l334.length t0_1) (t := 30) (B' := (some (⟨g336, 0, none⟩ : Addr))) (n := 1) (C' := 1) 0 3 7 2 0 H (fun l337 A338 c339 u340 H => ?_)
       exact W.to 7 (ih0 (l337, (w (x0_1 + 1))) (A338, c339, _) _ (H.sub [0, 9, 10, 11] rfl))
     · skip
       refine W.fz 17 4 H (fun g12 Φ H => ?_)
       refine W.fz 0 5 H (fun g13 Φ H => ?_)
       have H0 := H
       refine W.als (B := t0_0) (c := t0_1) (t := 30) 6 3 1 H (fun l214 A215 c216 H => ?_)
       replace H := Reps.addWa (enc := (dF_TNode_d Φ0)) (enc' := dL_TNode_d) (fun _ _ _ h => Rc.weak h) H 0
       refine W.callT 2 [(0, 3)] H (fun Φ H => rx_Norm_1_c n _ _ _ A215 c216 (H.sub [0] rfl)) ?_ ⟨⟨_, x0_0.length, t0_1, _, 30, 1, _, _, _, _, _, by kernel_rfl, rfl⟩, trivial⟩ (fun _ _ _ h => ⟨Rr.flatm (fun _ => by kernel_rfl) h.1, trivial⟩)
       rintro x254 ⟨A255, c256, u257⟩ - H
       refine W.osl (B := t0_0) (c := t0_1) (t := 30) 6 3 4 H (fun l334 u335 H => ?_)
       refine W.frF (B := A255) (n := x254.length) (c := c256) (t := 26) 2 6 1 8 H (fun Φ H => ?_)
       refine W.row 0 7 (dF_TNode_d Φ0) [x254] [[0]] 1 H (fun g336 H => ?_)
       refine W.apO (V := .slice t0_0 l334.length t0_1) (t := 30) (B' := (some (⟨g336, 0, none⟩ : Addr))) (n := 1) (C' := 1) 0 3 7 2 0 H (fun l337 A338 c339 u340 H => ?_)
       exact W.to 7 (ih0 (l337, (w (x0_1 + 1))) (A338, c339, _) _ (H.sub [0, 9, 10, 11] rfl))
   · exact W.to 2 (kx0 x0_0 (t0_0, t0_1, _) _ (H.sub [0, 2, 3] rfl))
def rx_tries_Rx_v2_p (Φ0 : Phi) (a0 : (List TNode)) (b0 : Nat) (A1 : Option Addr) (c2 : Nat) (b1 : Nat) (r : (List TNode) × Int) : Post := tPost (fun t : Option Addr × Nat => .tup [.v (.slice t.1 r.1.length t.2), .v (.int .i64 r.2)]) (fun t => [.f b0 [.slice A1 a0.length c2] 30, .f b1 [.func (.func 47) #[] #[]] 38]) (fun t => [.d (.frow Φ0 26 7 r.1.length (r.1.map TNode.d)) (.slice t.1 r.1.length t.2)])
theorem rx_tries_Rx_v2_c (n : Nat) (Φ0 : Phi) (a0 : (List TNode)) (b0 : Nat) (A1 : Option Addr) (c2 : Nat) (b1 : Nat) (H : Reps Φ0 [.d (.row 7 a0.length (a0.map TNode.d)) (.slice A1 a0.length c2)]) : ∀ r, rx_tries_Rx_v2 n a0 = some r → CallG Try.prog 41 [.fn (.func 73) [.p 0 0, .p 1 0]] [.f b0 [.slice A1 a0.length c2] 30, .f b1 [.func (.func 47) #[] #[]] 38] Φ0 ((rx_tries_Rx_v2_p Φ0 a0 b0 A1 c2 b1) r) := by
 refine CallG.WN Try.func41 fun E G β0 => ?_
 rw [rx_tries_Rx_v2]
 refine WN.unf 0 0 ?_
 refine WN.unf 0 1 ?_
 replace H := Reps.le0 H
 refine WN.tr 8 2 1 1 [.slice none 0 0] (fun g3 => ?_)
 refine WN.tr 0 3 1 1 [.int .i64 0] (fun g4 => ?_)
 refine WN.defer 0 72 #[.pointer (some ⟨g3, 0, none⟩), .pointer (some ⟨g4, 0, none⟩)] ?_
 have hz5 : PhiLe 0 Φ0 _ := H.lez 0
 refine WN.callD 4 [0, 1] H (rx_folded_Rx__1_c n _ _ b0 A1 c2 b1 (H.sub [1] rfl)) ?_ ?_
 · rintro x6 ⟨A7, c8⟩ Φ - H
   replace H := Reps.antiF hz5 H
   refine WN.sto 0 2 ?_
   refine WN.sto 0 3 ?_
   refine WN.retD 1 72 #[.pointer (some ⟨g3, 0, none⟩), .pointer (some ⟨g4, 0, none⟩)] Try.func72 (fun E2 G2 β2 => ?_)
   refine W.nn 3 false ?_
   exact W.endD 3 2 3 [0, 1] (A7, c8) [0] H
 · intro e9 Φ H r hr
   cases hr
   refine WN.panD 4 72 #[.pointer (some ⟨g3, 0, none⟩), .pointer (some ⟨g4, 0, none⟩)] Try.func72 (fun E2 G2 β2 => ?_)
   refine W.ta 9 (.int .i64 e9) ?_
   refine W.sto 21 2 ?_
   refine W.sto 0 3 ?_
   replace H := Reps.nilF (Φz := Φ0) (enc := TNode.d) (e := 26) (sz := 7) H
   exact W.endD 1 2 3 [0, 1] (none, 0) [0] H
def rx_folded_Rx_p (Φ0 : Phi) (a0 : (List TNode)) (A1 : Option Addr) (c2 : Nat) (r : (List TNode) × Int) : Post := tPost (fun t : Option Addr × Nat => .tup [.v (.slice t.1 r.1.length t.2), .v (.int .i64 r.2)]) (fun t => []) (fun t => [.d (.frow Φ0 26 7 r.1.length (r.1.map TNode.d)) (.slice t.1 r.1.length t.2)])
theorem rx_folded_Rx_c (n : Nat) (Φ0 : Phi) (a0 : (List TNode)) (A1 : Option Addr) (c2 : Nat) (H : Reps Φ0 [.d (.row 7 a0.length (a0.map TNode.d)) (.slice A1 a0.length c2)]) : ∀ r, rx_folded_Rx n a0 = some r → CallG Try.prog 46 [.v (.slice A1 a0.length c2), .v (.func (.func 47) #[] #[])] [] Φ0 ((rx_folded_Rx_p Φ0 a0 A1 c2) r) := by
 refine CallG.W Try.func46 fun E G β0 => ?_
 rw [rx_folded_Rx]
 replace H := Reps.le0 H
 refine W.fz 10 0 H (fun g3 Φ H => ?_)
 refine W.fz 0 1 H (fun g4 Φ H => ?_)
 have hz5 : PhiLe 0 Φ0 _ := H.lez 0
 refine W.call 0 [0, 1] H (rx_tries_Rx_v2_c n _ _ g3 A1 c2 g4 (H.sub [1] rfl)) ?_
 rintro x6 ⟨A7, c8⟩ Φ - H
 replace H := Reps.antiF hz5 H
 exact W.ret 5 [] (A7, c8) [0] H
def rx_Norm_p (Φ0 : Phi) (a0 : (List TNode)) (A1 : Option Addr) (c2 : Nat) (r : (List TNode) × Int) : Post := tPost (fun t : Option Addr × Nat => .tup [.v (.slice t.1 r.1.length t.2), .v (.int .i64 r.2)]) (fun t => []) (fun t => [.d (.frow Φ0 26 7 r.1.length (r.1.map TNode.d)) (.slice t.1 r.1.length t.2)])
theorem rx_Norm_c (n : Nat) (Φ0 : Phi) (a0 : (List TNode)) (A1 : Option Addr) (c2 : Nat) (H : Reps Φ0 [.d (.row 7 a0.length (a0.map TNode.d)) (.slice A1 a0.length c2)]) : ∀ r, rx_Norm n a0 = some r → CallG Try.prog 17 [.v (.slice A1 a0.length c2)] [] Φ0 ((rx_Norm_p Φ0 a0 A1 c2) r) := by
 refine CallG.W Try.func17 fun E G β0 => ?_
 rw [rx_Norm]
 replace H := Reps.le0 H
 have hz3 : PhiLe 0 Φ0 _ := H.lez 0
 refine W.call 8 [] H (rx_folded_Rx_c n _ _ A1 c2 (H.sub [1] rfl)) ?_
 rintro x4 ⟨A5, c6⟩ Φ - H
 replace H := Reps.antiF hz3 H
 exact W.ret 5 [] (A5, c6) [0] H
def slices_Equal_Rx_Node_p (a0 : (List TNode)) (a1 : (List TNode)) (A1 : Option Addr) (c2 : Nat) (A3 : Option Addr) (c4 : Nat) (r : Bool) : Post := tPost (fun t : Unit => .v (.bool r)) (fun t => []) (fun t => [])
theorem slices_Equal_Rx_Node_c (n : Nat) (Φ : Phi) (a0 : (List TNode)) (a1 : (List TNode)) (A1 : Option Addr) (c2 : Nat) (A3 : Option Addr) (c4 : Nat) (H : Reps Φ [.d (.row 7 a1.length (a1.map TNode.d)) (.slice A3 a1.length c4), .d (.row 7 a0.length (a0.map TNode.d)) (.slice A1 a0.length c2)]) : ∀ r, slices_Equal_Rx_Node n a0 a1 = some r → CallG Try.prog 54 [.v (.slice A1 a0.length c2), .v (.slice A3 a1.length c4)] [] Φ ((slices_Equal_Rx_Node_p a0 a1 A1 c2 A3 c4) r) := by
 refine CallG.W Try.func54 fun E G β0 => ?_
 rw [slices_Equal_Rx_Node]
 refine W.bs 13 [10] ?_ ?_
 · exact W.ret 5 [] () [] H
 · refine W.lp 11 0 (fun m st => slices_Equal_Rx_Node_L0 n a0 a1 m st) (fun (st : Int) (t : Unit) => ⟨fr 26 [(0, .v (.slice A1 a0.length c2)), (1, .v (.slice A3 a1.length c4)), (12, .v (.int .i64 (a0.length : Int))), (13, .v (.int .i64 st))], []⟩) (fun (st : Int) (t : Unit) => [.d (.row 7 a0.length (a0.map TNode.d)) (.slice A1 a0.length c2), .d (.row 7 a1.length (a1.map TNode.d)) (.slice A3 a1.length c4)]) (fun (st : Unit) (t : Unit) => ⟨fr 26 [], []⟩) (fun (st : Unit) (t : Unit) => []) () (H.sub [1, 0] rfl) (fun _ => rfl) ?_ ?_
   · rintro - ⟨⟩ Φ H
     exact W.ret 4 [] () [] H
   · intro m0 ih0 kx0
     rintro x0_0 ⟨⟩ Φ H
     rw [slices_Equal_Rx_Node_L0]
     refine W.bs 5 [14] ?_ ?_
     · have H0 := H
       refine W.ixt 15 2 0 .i64 H0 H (fun e125 v126 H0 H => ?_)
       refine W.ldt 0 3 0 [] true H0 H ?_
       intro H0 H
       refine W.ix 1 2 .i64 H (fun e285 v286 H => ?_)
       refine W.ld 2 0 [] H ?_
       intro H
       refine W.eq 2 (!((e125.Kind == e285.Kind) && (((e125.Set.e0 == e285.Set.e0) && ((e125.Set.e1 == e285.Set.e1) && ((e125.Set.e2 == e285.Set.e2) && ((e125.Set.e3 == e285.Set.e3) && true)))) && ((e125.Min == e285.Min) && ((e125.Max == e285.Max) && true))))) ?_
       refine W.bs 2 [24] ?_ ?_
       · exact W.rt <| W.ret 5 [] () [] H
       · exact W.to 7 (ih0 (w (x0_0 + 1)) () _ (H.sub [2, 3] rfl))
     · exact W.to 2 (kx0 () () _ (H.sub [] rfl))
def rx_Same_p (a0 : (List TNode)) (a1 : (List TNode)) (A1 : Option Addr) (c2 : Nat) (A3 : Option Addr) (c4 : Nat) (r : Bool) : Post := tPost (fun t : Unit => .v (.bool r)) (fun t => []) (fun t => [])
theorem rx_Same_c (n : Nat) (Φ : Phi) (a0 : (List TNode)) (a1 : (List TNode)) (A1 : Option Addr) (c2 : Nat) (A3 : Option Addr) (c4 : Nat) (H : Reps Φ [.d (.row 7 a1.length (a1.map TNode.d)) (.slice A3 a1.length c4), .d (.row 7 a0.length (a0.map TNode.d)) (.slice A1 a0.length c2)]) : ∀ r, rx_Same n a0 a1 = some r → CallG Try.prog 20 [.v (.slice A1 a0.length c2), .v (.slice A3 a1.length c4)] [] Φ ((rx_Same_p a0 a1 A1 c2 A3 c4) r) := by
 refine CallG.W Try.func20 fun E G β0 => ?_
 rw [rx_Same]
 refine W.call 8 [] H (slices_Equal_Rx_Node_c n _ _ _ A1 c2 A3 c4 (H.sub [0, 1] rfl)) ?_
 rintro x5 ⟨⟩ Φ - H
 exact W.ret 2 [] () [] H
def law04_wakes_p   (r : Bool) : Post := tPost (fun t : Unit => .v (.bool r)) (fun t => []) (fun t => [])
theorem law04_wakes_c (n : Nat) (Φ : Phi)   (H : Reps Φ []) : ∀ r, law04_wakes n = some r → CallG Try.prog 9 [] [] Φ ((law04_wakes_p) r) := by
 refine CallG.W Try.func9 fun E G β0 => ?_
 rw [law04_wakes]
 refine W.call 7 [] H (law04_a_c _   (H.sub [] rfl)) ?_
 rintro x1 ⟨A2, c3, u4⟩ Φ - H
 refine W.call 0 [] H (law04_a_c _   (H.sub [] rfl)) ?_
 rintro x5 ⟨A6, c7, u8⟩ Φ - H
 refine W.fr (B := A2) (n := x1.length) (c := c3) (t := 26) 1 0 1 H (fun Φ H => ?_)
 refine W.fr (B := A6) (n := x5.length) (c := c7) (t := 26) 0 1 1 H (fun Φ H => ?_)
 refine W.row 0 2 dL_TNode_d [x1, x5] [[1], [0]] 1 H (fun g9 H => ?_)
 refine W.fr (B := (some (⟨g9, 0, none⟩ : Addr))) (n := 2) (c := 2) (t := 30) 0 2 0 H (fun Φ H => ?_)
 refine W.call 0 [] H (rx_Join_c n _ _ _ (some (⟨g9, 0, none⟩ : Addr)) 2 (H.sub [0] rfl)) ?_
 rintro x10 ⟨A11, c12, u13⟩ Φ - H
 refine W.fr (B := A11) (n := x10.1.length) (c := c12) (t := 26) 11 3 0 H (fun Φ H => ?_)
 refine W.row 0 4 dL_TNode_d [x10.1] [[0]] 1 H (fun g14 H => ?_)
 refine W.fr (B := (some (⟨g14, 0, none⟩ : Addr))) (n := 1) (c := 1) (t := 30) 0 4 0 H (fun Φ H => ?_)
 refine W.call 0 [] H (rx_Join_c n _ _ _ (some (⟨g14, 0, none⟩ : Addr)) 1 (H.sub [0] rfl)) ?_
 rintro x15 ⟨A16, c17, u18⟩ Φ - H
 refine W.fr (B := A16) (n := x15.1.length) (c := c17) (t := 26) 9 5 0 H (fun Φ H => ?_)
 refine W.call 0 [] H (rx_Depth_c n _ _ A16 c17 (H.sub [0] rfl)) ?_
 rintro x19 ⟨⟩ Φ - H
 refine W.call 9 [] H (rx_Nullable_c n _ _ A16 c17 (H.sub [0] rfl)) ?_
 rintro x20 ⟨⟩ Φ - H
 refine W.call 8 [] H (law04_a_c _   (H.sub [] rfl)) ?_
 rintro x21 ⟨A22, c23, u24⟩ Φ - H
 refine W.call 0 [] H (law04_a_c _   (H.sub [] rfl)) ?_
 rintro x25 ⟨A26, c27, u28⟩ Φ - H
 refine W.apO (V := .slice A22 x21.length c23) (t := 26) (B' := A26) (n := x25.length) (C' := c27) 0 6 7 1 0 H (fun l29 A30 c31 u32 H => ?_)
 refine W.fr (B := A30) (n := l29.length) (c := c31) (t := 26) 0 6 0 H (fun Φ H => ?_)
 refine W.call 0 [] H (rx_Check_c n _ _ A30 c31 (H.sub [0] rfl)) ?_
 rintro x33 ⟨⟩ Φ - H
 refine W.call 8 [] H (law04_a_c _   (H.sub [] rfl)) ?_
 rintro x34 ⟨A35, c36, u37⟩ Φ - H
 refine W.row 2 9 TNode.d [(⟨4, (⟨0, 0, 0, 0⟩ : Ar4_dI_u64), 0, 0⟩ : TNode)] [[]] 7 H (fun g38 H => ?_)
 refine W.apO (V := .slice A35 x34.length c36) (t := 26) (B' := (some (⟨g38, 0, none⟩ : Addr))) (n := 1) (C' := 1) 0 8 9 1 0 H (fun l39 A40 c41 u42 H => ?_)
 refine W.fr (B := A40) (n := l39.length) (c := c41) (t := 26) 0 8 0 H (fun Φ H => ?_)
 refine W.call 0 [] H (rx_Check_c n _ _ A40 c41 (H.sub [0] rfl)) ?_
 rintro x43 ⟨⟩ Φ - H
 refine W.call 9 [] H (rx_Below_c n _ _ _ A11 c12 (H.sub [12] rfl)) ?_
 rintro x44 ⟨A45, c46, u47⟩ Φ - H
 refine W.call 9 [] H (rx_Parts_c n _ _ A11 c12 (H.sub [13] rfl)) ?_
 rintro x48 ⟨A49, c50, u51⟩ Φ - H
 refine W.call 8 [] H (law04_a_c _   (H.sub [] rfl)) ?_
 rintro x52 ⟨A53, c54, u55⟩ Φ - H
 refine W.row 3 13 TNode.d [(⟨9, (⟨0, 0, 0, 0⟩ : Ar4_dI_u64), 0, 0⟩ : TNode), (⟨6, (⟨0, 0, 0, 0⟩ : Ar4_dI_u64), 0, 0⟩ : TNode)] [[], []] 7 H (fun g56 H => ?_)
 refine W.apO (V := .slice A53 x52.length c54) (t := 26) (B' := (some (⟨g56, 0, none⟩ : Addr))) (n := 2) (C' := 2) 0 12 13 1 0 H (fun l57 A58 c59 u60 H => ?_)
 refine W.fr (B := A58) (n := l57.length) (c := c59) (t := 26) 0 12 0 H (fun Φ H => ?_)
 refine W.call 0 [] H (rx_Norm_c n _ _ A58 c59 (H.sub [0] rfl)) ?_
 rintro x61 ⟨A62, c63⟩ Φ - H
 replace H := Reps.weakF H
 refine W.bs 11 [79, 80] ?_ ?_
 · refine W.bs 4 [82, 83, 84] ?_ ?_
   · refine W.bs 4 [86, 87, 88] ?_ ?_
     · refine W.bs 4 [90, 91, 92] ?_ ?_
       · refine W.bs 4 [94, 95, 96] ?_ ?_
         · refine W.bs 4 [98, 99, 100] ?_ ?_
           · refine W.bs 4 [102, 103, 104] ?_ ?_
             · refine W.bs 4 [106, 107, 108] ?_ ?_
               · refine W.bs 4 [110, 111, 112] ?_ ?_
                 · refine W.bs 5 [115, 116, 117] ?_ ?_
                   · refine W.bs 4 [119, 120, 121] ?_ ?_
                     · refine W.bs 3 [7, 42, 122, 123, 124] ?_ ?_
                       · refine W.bs 4 [126, 127, 128] ?_ ?_
                         · refine W.bs 4 [130, 131, 132] ?_ ?_
                           · refine W.call 1 [] H (law04_a_c _   (H.sub [] rfl)) ?_
                             rintro x64 ⟨A65, c66, u67⟩ Φ - H
                             refine W.fr (B := A45) (n := x44.1.length) (c := c46) (t := 26) 0 10 7 H (fun Φ H => ?_)
                             refine W.fr (B := A65) (n := x64.length) (c := c66) (t := 26) 0 14 1 H (fun Φ H => ?_)
                             refine W.call 0 [] H (rx_Same_c n _ _ _ A45 c46 A65 c66 (H.sub [0, 1] rfl)) ?_
                             rintro x68 ⟨⟩ Φ - H
                             refine W.bs 2 [135, 136, 137] ?_ ?_
                             · refine W.bs 5 [140, 141, 142] ?_ ?_
                               · refine W.row 4 15 TNode.d [(⟨2, (⟨0, 0, 0, 0⟩ : Ar4_dI_u64), 0, 0⟩ : TNode), (⟨6, (⟨0, 0, 0, 0⟩ : Ar4_dI_u64), 0, 0⟩ : TNode)] [[], []] 7 H (fun g69 H => ?_)
                                 refine W.fr (B := (some (⟨g69, 0, none⟩ : Addr))) (n := 2) (c := 2) (t := 26) 0 15 0 H (fun Φ H => ?_)
                                 refine W.call 0 [] H (rx_Same_c n _ _ _ A62 c63 (some (⟨g69, 0, none⟩ : Addr)) 2 (H.sub [0, 5] rfl)) ?_
                                 rintro x70 ⟨⟩ Φ - H
                                 exact W.ret 3 [] () [] H
                               · exact W.ret 8 [] () [] H
                             · exact W.ret 13 [] () [] H
                           · exact W.ret 18 [] () [] H
                         · exact W.ret 22 [] () [] H
                       · exact W.ret 26 [] () [] H
                     · exact W.ret 29 [] () [] H
                   · exact W.ret 33 [] () [] H
                 · exact W.ret 38 [] () [] H
               · exact W.ret 42 [] () [] H
             · exact W.ret 46 [] () [] H
           · exact W.ret 50 [] () [] H
         · exact W.ret 54 [] () [] H
       · exact W.ret 58 [] () [] H
     · exact W.ret 62 [] () [] H
   · exact W.ret 66 [] () [] H
 · exact W.ret 70 [] () [] H
def slices_Clone_Rx_Node_p (a0 : (List TNode)) (A1 : Option Addr) (c2 : Nat) (r : (List TNode)) : Post := tPost (fun t : Option Addr × Nat × List Value => .v (.slice t.1 r.length t.2.1)) (fun t => [.o (.slice t.1 r.length t.2.1) r.length t.2.2 26 7]) (fun t => [.r 7 (r.map TNode.d) t.2.2])
theorem slices_Clone_Rx_Node_c (Φ : Phi) (a0 : (List TNode)) (A1 : Option Addr) (c2 : Nat) (H : Reps Φ [.d (.row 7 a0.length (a0.map TNode.d)) (.slice A1 a0.length c2)]) : ∀ r, slices_Clone_Rx_Node a0 = some r → CallG Try.prog 40 [.v (.slice A1 a0.length c2)] [] Φ ((slices_Clone_Rx_Node_p a0 A1 c2) r) := by
 refine CallG.W Try.func40 fun E G β0 => ?_
 rw [slices_Clone_Rx_Node]
 refine W.nilc 8 0 true H ?_ ?_
 · rintro rfl
   refine W.cast (o' := some []) (by rfl) ?_
   refine W.nl 6 26 7 ?_
   replace H := Reps.nilR (enc := TNode.d) (sz := 7) H
   exact W.ret 0 [0] (none, 0, _) [0] H
 · refine W.row 7 0 TNode.d [] [] 7 H (fun g3 H => ?_)
   refine W.apD (V := .slice (some (⟨g3, 0, none⟩ : Addr)) 0 0) (t := 26) 0 0 0 1 H (fun l4 A5 c6 u7 H => ?_)
   exact W.ret 2 [0] (A5, c6, _) [0] H
def law04_own_p (a0 : (List TNode)) (A1 : Option Addr) (c2 : Nat) (r : (List TNode)) : Post := tPost (fun t : Option Addr × Nat × List Value => .v (.slice t.1 r.length t.2.1)) (fun t => [.o (.slice t.1 r.length t.2.1) r.length t.2.2 26 7]) (fun t => [.r 7 (r.map TNode.d) t.2.2])
theorem law04_own_c (Φ : Phi) (a0 : (List TNode)) (A1 : Option Addr) (c2 : Nat) (H : Reps Φ [.d (.row 7 a0.length (a0.map TNode.d)) (.slice A1 a0.length c2)]) : ∀ r, law04_own a0 = some r → CallG Try.prog 10 [.v (.slice A1 a0.length c2)] [] Φ ((law04_own_p a0 A1 c2) r) := by
 refine CallG.W Try.func10 fun E G β0 => ?_
 rw [law04_own]
 refine W.mm 9 true .i64 (a0.length : Int) 60 ?_
 refine W.dsl 0 0 H (fun l3 A4 c5 H => ?_)
 refine W.call 0 [] H (slices_Clone_Rx_Node_c _ _ A4 c5 (H.sub [0] rfl)) ?_
 rintro x6 ⟨A7, c8, u9⟩ Φ - H
 exact W.ret 2 [0] (A7, c8, _) [0] H
def slices_Clone_sint_int_p (a0 : (List Int)) (A1 : Option Addr) (c2 : Nat) (r : (List Int)) : Post := tPost (fun t : Option Addr × Nat × List Value => .v (.slice t.1 r.length t.2.1)) (fun t => [.o (.slice t.1 r.length t.2.1) r.length t.2.2 3 1]) (fun t => [.r 1 (r.map (dI .i64)) t.2.2])
theorem slices_Clone_sint_int_c (Φ : Phi) (a0 : (List Int)) (A1 : Option Addr) (c2 : Nat) (H : Reps Φ [.d (.row 1 a0.length (a0.map (dI .i64))) (.slice A1 a0.length c2)]) : ∀ r, slices_Clone_sint_int a0 = some r → CallG Try.prog 28 [.v (.slice A1 a0.length c2)] [] Φ ((slices_Clone_sint_int_p a0 A1 c2) r) := by
 refine CallG.W Try.func28 fun E G β0 => ?_
 rw [slices_Clone_sint_int]
 refine W.nilc 8 0 true H ?_ ?_
 · rintro rfl
   refine W.cast (o' := some []) (by rfl) ?_
   refine W.nl 6 3 1 ?_
   replace H := Reps.nilR (enc := (dI .i64)) (sz := 1) H
   exact W.ret 0 [0] (none, 0, _) [0] H
 · refine W.row 7 0 (dI .i64) [] [] 1 H (fun g3 H => ?_)
   refine W.apD (V := .slice (some (⟨g3, 0, none⟩ : Addr)) 0 0) (t := 3) 0 0 0 1 H (fun l4 A5 c6 u7 H => ?_)
   exact W.ret 2 [0] (A5, c6, _) [0] H
def slices_Index_sint_int_p (a0 : (List Int)) (a1 : Int) (A1 : Option Addr) (c2 : Nat) (r : Int) : Post := tPost (fun t : Unit => .v (.int .i64 r)) (fun t => []) (fun t => [])
theorem slices_Index_sint_int_c (n : Nat) (Φ : Phi) (a0 : (List Int)) (a1 : Int) (A1 : Option Addr) (c2 : Nat) (H : Reps Φ [.d (.row 1 a0.length (a0.map (dI .i64))) (.slice A1 a0.length c2)]) : ∀ r, slices_Index_sint_int n a0 a1 = some r → CallG Try.prog 91 [.v (.slice A1 a0.length c2), .v (.int .i64 a1)] [] Φ ((slices_Index_sint_int_p a0 a1 A1 c2) r) := by
 refine CallG.W Try.func91 fun E G β0 => ?_
 rw [slices_Index_sint_int]
 refine W.lp 13 0 (fun m st => slices_Index_sint_int_L0 n a0 a1 m st) (fun (st : Int) (t : Unit) => ⟨fr 19 [(0, .v (.slice A1 a0.length c2)), (1, .v (.int .i64 a1)), (7, .v (.int .i64 (a0.length : Int))), (8, .v (.int .i64 st))], []⟩) (fun (st : Int) (t : Unit) => [.d (.row 1 a0.length (a0.map (dI .i64))) (.slice A1 a0.length c2)]) (fun (st : Unit) (t : Unit) => ⟨fr 19 [], []⟩) (fun (st : Unit) (t : Unit) => []) () (H.sub [0] rfl) (fun _ => rfl) ?_ ?_
 · rintro - ⟨⟩ Φ H
   exact W.ret 4 [] () [] H
 · intro m0 ih0 kx0
   rintro x0_0 ⟨⟩ Φ H
   rw [slices_Index_sint_int_L0]
   refine W.bs 5 [9] ?_ ?_
   · refine W.ix 14 0 .i64 H (fun e3 v4 H => ?_)
     refine W.ld 0 0 [] H ?_
     intro H
     refine W.bs 2 [16] ?_ ?_
     · exact W.rt <| W.ret 6 [] () [] H
     · exact W.to 7 (ih0 (w (x0_0 + 1)) () _ (H.sub [1] rfl))
   · exact W.to 2 (kx0 () () _ (H.sub [] rfl))
def slices_Contains_sint_int_p (a0 : (List Int)) (a1 : Int) (A1 : Option Addr) (c2 : Nat) (r : Bool) : Post := tPost (fun t : Unit => .v (.bool r)) (fun t => []) (fun t => [])
theorem slices_Contains_sint_int_c (n : Nat) (Φ : Phi) (a0 : (List Int)) (a1 : Int) (A1 : Option Addr) (c2 : Nat) (H : Reps Φ [.d (.row 1 a0.length (a0.map (dI .i64))) (.slice A1 a0.length c2)]) : ∀ r, slices_Contains_sint_int n a0 a1 = some r → CallG Try.prog 68 [.v (.slice A1 a0.length c2), .v (.int .i64 a1)] [] Φ ((slices_Contains_sint_int_p a0 a1 A1 c2) r) := by
 refine CallG.W Try.func68 fun E G β0 => ?_
 rw [slices_Contains_sint_int]
 refine W.call 8 [] H (slices_Index_sint_int_c n _ _ _ A1 c2 (H.sub [0] rfl)) ?_
 rintro x3 ⟨⟩ Φ - H
 exact W.ret 3 [] () [] H
def rx_Count_1_p (a0 : (List TNode)) (a1 : (List Int)) (b0 : Nat) (A1 : Option Addr) (c2 : Nat) (b1 : Nat) (A3 : Option Addr) (c4 : Nat) (r : Int) : Post := tPost (fun t : Unit => .v (.int .i64 r)) (fun t => [.f b0 [.slice A1 a0.length c2] 30, .f b1 [.slice A3 a1.length c4] 52]) (fun t => [])
theorem rx_Count_1_c (n : Nat) (Φ : Phi) (a0 : (List TNode)) (a1 : (List Int)) (b0 : Nat) (A1 : Option Addr) (c2 : Nat) (b1 : Nat) (A3 : Option Addr) (c4 : Nat) (H : Reps Φ [.d (.row 1 a1.length (a1.map (dI .i64))) (.slice A3 a1.length c4), .d (.row 7 a0.length (a0.map TNode.d)) (.slice A1 a0.length c2)]) : ∀ r, rx_Count_1 n a0 a1 = some r → CallG Try.prog 67 [.p 0 0, .p 1 0] [.f b0 [.slice A1 a0.length c2] 30, .f b1 [.slice A3 a1.length c4] 52] Φ ((ePost 33 2 (rx_Count_1_p a0 a1 b0 A1 c2 b1 A3 c4)) r) := by
 refine CallG.W Try.func67 fun E G β0 => ?_
 have hP := PanK.body (Γ := ⟨Try.prog, E, G, Φ, β0, 2, [], none⟩) (fn := Try.f67) (T := 33) (p := rx_Count_1_p a0 a1 b0 A1 c2 b1 A3 c4) rfl
 rw [rx_Count_1]
 refine W.callE 12 [] hP H (rx_of_c n _ _ A1 c2 (H.sub [1] rfl)) ?_
 rintro x5 ⟨A6, c7⟩ Φ - H
 refine W.lp 8 0 (fun m st => rx_Count_1_L0 n a1 x5 m st) (fun (st : Int × Int) (t : Unit) => ⟨fr 29 [(1, .p 1 0), (3, .v (.int .i64 st.1)), (10, .v (.slice A6 x5.length c7)), (11, .v (.int .i64 (x5.length : Int))), (12, .v (.int .i64 st.2))], [.f b0 [.slice A1 a0.length c2] 30, .f b1 [.slice A3 a1.length c4] 52]⟩) (fun (st : Int × Int) (t : Unit) => [.d (.row 7 x5.length (x5.map TNode.d)) (.slice A6 x5.length c7), .d (.row 7 a0.length (a0.map TNode.d)) (.slice A1 a0.length c2), .d (.row 1 a1.length (a1.map (dI .i64))) (.slice A3 a1.length c4)]) (fun (st : Int) (t : Unit) => ⟨fr 29 [(3, .v (.int .i64 st))], [.f b0 [.slice A1 a0.length c2] 30, .f b1 [.slice A3 a1.length c4] 52]⟩) (fun (st : Int) (t : Unit) => [.d (.row 7 a0.length (a0.map TNode.d)) (.slice A1 a0.length c2), .d (.row 1 a1.length (a1.map (dI .i64))) (.slice A3 a1.length c4)]) () (H.sub [0, 2, 1] rfl) (fun _ => rfl) ?_ ?_
 · rintro o0 ⟨⟩ Φ H
   exact W.ret 5 [0, 1] () [] H
 · intro m0 ih0 kx0
   rintro ⟨x0_0, x0_1⟩ ⟨⟩ Φ H
   rw [rx_Count_1_L0]
   refine W.bs 5 [13] ?_ ?_
   · refine W.ix 6 0 .i64 H (fun e8 v9 H => ?_)
     refine W.ld 0 0 [] H ?_
     intro H
     refine W.bs 9 [18, 19] ?_ ?_
     · exact W.to 17 (ih0 ((w (x0_0 + 1)), (w (x0_1 + 1))) () _ (H.sub [1, 2, 3] rfl))
     · refine W.call 3 [] H (slices_Contains_sint_int_c n _ _ _ A3 c4 (H.sub [3] rfl)) ?_
       rintro x10 ⟨⟩ Φ - H
       refine W.bs 2 [23, 24] ?_ ?_
       · exact W.to 11 (ih0 ((w (x0_0 + 1)), (w (x0_1 + 1))) () _ (H.sub [1, 2, 3] rfl))
       · exact W.to 7 (ih0 (x0_0, (w (x0_1 + 1))) () _ (H.sub [1, 2, 3] rfl))
   · exact W.to 2 (kx0 x0_0 () _ (H.sub [1, 2] rfl))
def rx_tries_int_v1_p (a0 : (List TNode)) (a1 : (List Int)) (b0 : Nat) (A1 : Option Addr) (c2 : Nat) (b1 : Nat) (A3 : Option Addr) (c4 : Nat) (r : Int × Int) : Post := tPost (fun t : Unit => .tup [.v (.int .i64 r.1), .v (.int .i64 r.2)]) (fun t => [.f b0 [.slice A1 a0.length c2] 30, .f b1 [.slice A3 a1.length c4] 52]) (fun t => [])
theorem rx_tries_int_v1_c (n : Nat) (Φ : Phi) (a0 : (List TNode)) (a1 : (List Int)) (b0 : Nat) (A1 : Option Addr) (c2 : Nat) (b1 : Nat) (A3 : Option Addr) (c4 : Nat) (H : Reps Φ [.d (.row 1 a1.length (a1.map (dI .i64))) (.slice A3 a1.length c4), .d (.row 7 a0.length (a0.map TNode.d)) (.slice A1 a0.length c2)]) : ∀ r, rx_tries_int_v1 n a0 a1 = some r → CallG Try.prog 66 [.fn (.func 67) [.p 0 0, .p 1 0]] [.f b0 [.slice A1 a0.length c2] 30, .f b1 [.slice A3 a1.length c4] 52] Φ ((rx_tries_int_v1_p a0 a1 b0 A1 c2 b1 A3 c4) r) := by
 refine CallG.WN Try.func66 fun E G β0 => ?_
 rw [rx_tries_int_v1]
 refine WN.unf 0 0 ?_
 refine WN.unf 0 1 ?_
 refine WN.tr 8 2 1 1 [.int .i64 0] (fun g5 => ?_)
 refine WN.tr 0 3 1 1 [.int .i64 0] (fun g6 => ?_)
 refine WN.defer 0 90 #[.pointer (some ⟨g5, 0, none⟩), .pointer (some ⟨g6, 0, none⟩)] ?_
 refine WN.callD 4 [0, 1] H (rx_Count_1_c n _ _ _ b0 A1 c2 b1 A3 c4 (H.sub [0, 1] rfl)) ?_ ?_
 · rintro x7 ⟨⟩ Φ - H
   refine WN.sto 0 2 ?_
   refine WN.sto 0 3 ?_
   refine WN.retD 1 90 #[.pointer (some ⟨g5, 0, none⟩), .pointer (some ⟨g6, 0, none⟩)] Try.func90 (fun E2 G2 β2 => ?_)
   refine W.nn 3 false ?_
   exact W.endD 3 2 3 [0, 1] () [] H
 · intro e8 Φ H r hr
   cases hr
   refine WN.panD 4 90 #[.pointer (some ⟨g5, 0, none⟩), .pointer (some ⟨g6, 0, none⟩)] Try.func90 (fun E2 G2 β2 => ?_)
   refine W.ta 9 (.int .i64 e8) ?_
   refine W.sto 21 2 ?_
   refine W.sto 0 3 ?_
   exact W.endD 1 2 3 [0, 1] () [] H
def rx_Count_p (a0 : (List TNode)) (a1 : (List Int)) (A1 : Option Addr) (c2 : Nat) (A3 : Option Addr) (c4 : Nat) (r : Int × Int) : Post := tPost (fun t : Unit => .tup [.v (.int .i64 r.1), .v (.int .i64 r.2)]) (fun t => []) (fun t => [])
theorem rx_Count_c (n : Nat) (Φ : Phi) (a0 : (List TNode)) (a1 : (List Int)) (A1 : Option Addr) (c2 : Nat) (A3 : Option Addr) (c4 : Nat) (H : Reps Φ [.d (.row 1 a1.length (a1.map (dI .i64))) (.slice A3 a1.length c4), .d (.row 7 a0.length (a0.map TNode.d)) (.slice A1 a0.length c2)]) : ∀ r, rx_Count n a0 a1 = some r → CallG Try.prog 29 [.v (.slice A1 a0.length c2), .v (.slice A3 a1.length c4)] [] Φ ((rx_Count_p a0 a1 A1 c2 A3 c4) r) := by
 refine CallG.W Try.func29 fun E G β0 => ?_
 rw [rx_Count]
 refine W.fz 10 0 H (fun g5 Φ H => ?_)
 refine W.fz 0 1 H (fun g6 Φ H => ?_)
 refine W.call 0 [0, 1] H (rx_tries_int_v1_c n _ _ _ g5 A1 c2 g6 A3 c4 (H.sub [0, 1] rfl)) ?_
 rintro x7 ⟨⟩ Φ - H
 exact W.ret 5 [] () [] H
theorem keyok_24 : KeyOk Try.prog 24 (fun x : Ar4_dI_u64 => Value.agg (([x.e0, x.e1, x.e2, x.e3] : List Int).map (Value.int .u64)).toArray) eqk_24 := KeyOk.arr (P := Try.prog) (kt := 24) (n := 4) (e := 22) (kd := .u64) (ks := fun x : Ar4_dI_u64 => [x.e0, x.e1, x.e2, x.e3]) (eq := eqk_24) (by kernel_rfl) (by kernel_rfl) (by kernel_rfl) (fun _ => rfl) (by intro x y; kernel_rfl) (by intro x y h; cases x; cases y; simp [eqk_24] at h; simp [h]) (by intro x; simp [eqk_24])
def rx_Sets_1_p (a0 : (List TNode)) (b0 : Nat) (A1 : Option Addr) (c2 : Nat) (r : (List Ar4_dI_u64)) : Post := tPost (fun t : Option Addr × Nat × List Value => .v (.slice t.1 r.length t.2.1)) (fun t => [.f b0 [.slice A1 a0.length c2] 30, .o (.slice t.1 r.length t.2.1) r.length t.2.2 24 4]) (fun t => [.r 4 (r.map Ar4_dI_u64.d) t.2.2])
theorem rx_Sets_1_c (n : Nat) (Φ : Phi) (a0 : (List TNode)) (b0 : Nat) (A1 : Option Addr) (c2 : Nat) (H : Reps Φ [.d (.row 7 a0.length (a0.map TNode.d)) (.slice A1 a0.length c2)]) : ∀ r, rx_Sets_1 n a0 = some r → CallG Try.prog 70 [.p 0 0] [.f b0 [.slice A1 a0.length c2] 30] Φ ((ePost 33 1 (rx_Sets_1_p a0 b0 A1 c2)) r) := by
 refine CallG.W Try.func70 fun E G β0 => ?_
 have hP := PanK.body (Γ := ⟨Try.prog, E, G, Φ, β0, 1, [], none⟩) (fn := Try.f70) (T := 33) (p := rx_Sets_1_p a0 b0 A1 c2) rfl
 rw [rx_Sets_1]
 refine W.mkm 6 100 (fun g3 => ?_)
 refine W.callE 10 [] hP H (rx_of_c n _ _ A1 c2 (H.sub [0] rfl)) ?_
 rintro x4 ⟨A5, c6⟩ Φ - H
 refine W.nl 8 24 4 ?_
 replace H := Reps.nilR (enc := Ar4_dI_u64.d) (sz := 4) H
 refine W.lp 0 0 (fun m st => rx_Sets_1_L0 n x4 m st) (fun (st : (List (Ar4_dI_u64 × Int)) × (List Ar4_dI_u64) × Int) (t : Nat × Option Addr × Nat × List Value) => ⟨fr 39 [(2, .v (.map (some t.1))), (3, .v (.slice t.2.1 st.2.1.length t.2.2.1)), (11, .v (.slice A5 x4.length c6)), (12, .v (.int .i64 (x4.length : Int))), (13, .v (.int .i64 st.2.2))], [.f b0 [.slice A1 a0.length c2] 30, .o (.map (some t.1)) 0 (mcs (fun x : Ar4_dI_u64 => Value.agg (([x.e0, x.e1, x.e2, x.e3] : List Int).map (Value.int .u64)).toArray) (fun x : Int => Value.int .i64 x) st.1) 100 0, .dead, .o (.slice t.2.1 st.2.1.length t.2.2.1) st.2.1.length t.2.2.2 24 4]⟩) (fun (st : (List (Ar4_dI_u64 × Int)) × (List Ar4_dI_u64) × Int) (t : Nat × Option Addr × Nat × List Value) => [.r 4 (st.2.1.map Ar4_dI_u64.d) t.2.2.2, .d (.row 7 x4.length (x4.map TNode.d)) (.slice A5 x4.length c6), .d (.row 7 a0.length (a0.map TNode.d)) (.slice A1 a0.length c2)]) (fun (st : (List Ar4_dI_u64)) (t : Option Addr × Nat × List Value) => ⟨fr 39 [(3, .v (.slice t.1 st.length t.2.1))], [.f b0 [.slice A1 a0.length c2] 30, .dead, .dead, .o (.slice t.1 st.length t.2.1) st.length t.2.2 24 4]⟩) (fun (st : (List Ar4_dI_u64)) (t : Option Addr × Nat × List Value) => [.r 4 (st.map Ar4_dI_u64.d) t.2.2, .d (.row 7 a0.length (a0.map TNode.d)) (.slice A1 a0.length c2)]) (g3, none, 0, _) (H.sub [0, 1, 2] rfl) (fun _ => rfl) ?_ ?_
 · rintro o0 ⟨y0_0, y0_1, y0_2⟩ Φ H
   exact W.ret 5 [0, 3] (y0_0, y0_1, _) [0] H
 · intro m0 ih0 kx0
   rintro ⟨x0_0, x0_1, x0_2⟩ ⟨t0_0, t0_1, t0_2, t0_3⟩ Φ H
   rw [rx_Sets_1_L0]
   refine W.bs 5 [14] ?_ ?_
   · refine W.ix 6 1 .i64 H (fun e7 v8 H => ?_)
     refine W.ld 0 0 [] H ?_
     intro H
     refine W.bs 10 [19] ?_ ?_
     · exact W.to 6 (ih0 (x0_0, x0_1, (w (x0_2 + 1))) (t0_0, t0_1, t0_2, _) _ (H.sub [1, 2, 3] rfl))
     · refine W.fz 3 4 H (fun g9 Φ H => ?_)
       have H0 := H
       refine W.any2 4 3 5 ?_ ?_
       · refine W.mlk 0 1 (t := 100) (g := t0_0) (n := 0) (tt := 100) (es := x0_0) (kv := (fun x : Ar4_dI_u64 => Value.agg (([x.e0, x.e1, x.e2, x.e3] : List Int).map (Value.int .u64)).toArray)) (eq := eqk_24) (vv := (fun x : Int => Value.int .i64 x)) (kt := 24) (ksv := .agg [.v (.int .u64 e7.Set.e0), .v (.int .u64 e7.Set.e1), .v (.int .u64 e7.Set.e2), .v (.int .u64 e7.Set.e3)]) (x := e7.Set) (et := 3) (ok := false) (z := 0) keyok_24 ?_
         refine W.men 3 1 (t := 100) (g := t0_0) (n := 0) (tt := 100) (es := x0_0) (kv := (fun x : Ar4_dI_u64 => Value.agg (([x.e0, x.e1, x.e2, x.e3] : List Int).map (Value.int .u64)).toArray)) (eq := eqk_24) (vv := (fun x : Int => Value.int .i64 x)) (kt := 24) (ksv := .agg [.v (.int .u64 e7.Set.e0), .v (.int .u64 e7.Set.e1), .v (.int .u64 e7.Set.e2), .v (.int .u64 e7.Set.e3)]) (x := e7.Set) (et := 3) (z := 0) keyok_24 (fun l250 p251 v252 h253 h254 => ?_)
         refine W.mes 3 1 (g := t0_0) (n := 0) (tt := 100) (es := l250) (kv := (fun x : Ar4_dI_u64 => Value.agg (([x.e0, x.e1, x.e2, x.e3] : List Int).map (Value.int .u64)).toArray)) (eq := eqk_24) (vv := (fun x : Int => Value.int .i64 x)) (kt := 24) (x := e7.Set) (sp := p251) (v0 := v252) (vsv := .v (.int .i64 (w (((mget eqk_24 x0_0 e7.Set).getD 0) + 1)))) (v := (w (((mget eqk_24 x0_0 e7.Set).getD 0) + 1))) keyok_24 h253 (fun l330 => ?_)
         refine W.mlk 7 1 (t := 100) (g := t0_0) (n := 0) (tt := 100) (es := l330) (kv := (fun x : Ar4_dI_u64 => Value.agg (([x.e0, x.e1, x.e2, x.e3] : List Int).map (Value.int .u64)).toArray)) (eq := eqk_24) (vv := (fun x : Int => Value.int .i64 x)) (kt := 24) (ksv := .agg [.v (.int .u64 e7.Set.e0), .v (.int .u64 e7.Set.e1), .v (.int .u64 e7.Set.e2), .v (.int .u64 e7.Set.e3)]) (x := e7.Set) (et := 3) (ok := false) (z := 0) keyok_24 ?_
         refine W.bs 2 [31] ?_ ?_
         · refine W.row 6 5 Ar4_dI_u64.d [e7.Set] [[]] 4 H (fun g370 H => ?_)
           refine W.apO (V := .slice t0_1 x0_1.length t0_2) (t := 24) (B' := (some (⟨g370, 0, none⟩ : Addr))) (n := 1) (C' := 1) 0 3 5 2 0 H (fun l371 A372 c373 u374 H => ?_)
           exact W.to 7 (ih0 (l330, l371, (w (x0_2 + 1))) (t0_0, A372, c373, _) _ (H.sub [0, 4, 5] rfl))
         · exact W.to 7 (ih0 (l330, x0_1, (w (x0_2 + 1))) (t0_0, t0_1, t0_2, _) _ (H.sub [1, 2, 3] rfl))
       · skip
         refine W.men 0 1 (t := 100) (g := t0_0) (n := 0) (tt := 100) (es := x0_0) (kv := (fun x : Ar4_dI_u64 => Value.agg (([x.e0, x.e1, x.e2, x.e3] : List Int).map (Value.int .u64)).toArray)) (eq := eqk_24) (vv := (fun x : Int => Value.int .i64 x)) (kt := 24) (ksv := .agg [.v (.int .u64 e7.Set.e0), .v (.int .u64 e7.Set.e1), .v (.int .u64 e7.Set.e2), .v (.int .u64 e7.Set.e3)]) (x := e7.Set) (et := 3) (z := 0) keyok_24 (fun l250 p251 v252 h253 h254 => ?_)
         refine W.mlkE 3 1 (t := 100) (g := t0_0) (n := 0) (tt := 100) (es := l250) (kv := (fun x : Ar4_dI_u64 => Value.agg (([x.e0, x.e1, x.e2, x.e3] : List Int).map (Value.int .u64)).toArray)) (eq := eqk_24) (vv := (fun x : Int => Value.int .i64 x)) (kt := 24) (ksv := .agg [.v (.int .u64 e7.Set.e0), .v (.int .u64 e7.Set.e1), .v (.int .u64 e7.Set.e2), .v (.int .u64 e7.Set.e3)]) (x := e7.Set) (et := 3) (z := 0) h254 keyok_24 ?_
         refine W.mes 3 1 (g := t0_0) (n := 0) (tt := 100) (es := l250) (kv := (fun x : Ar4_dI_u64 => Value.agg (([x.e0, x.e1, x.e2, x.e3] : List Int).map (Value.int .u64)).toArray)) (eq := eqk_24) (vv := (fun x : Int => Value.int .i64 x)) (kt := 24) (x := e7.Set) (sp := p251) (v0 := v252) (vsv := .v (.int .i64 (w (((mget eqk_24 x0_0 e7.Set).getD 0) + 1)))) (v := (w (((mget eqk_24 x0_0 e7.Set).getD 0) + 1))) keyok_24 h253 (fun l330 => ?_)
         refine W.mlk 7 1 (t := 100) (g := t0_0) (n := 0) (tt := 100) (es := l330) (kv := (fun x : Ar4_dI_u64 => Value.agg (([x.e0, x.e1, x.e2, x.e3] : List Int).map (Value.int .u64)).toArray)) (eq := eqk_24) (vv := (fun x : Int => Value.int .i64 x)) (kt := 24) (ksv := .agg [.v (.int .u64 e7.Set.e0), .v (.int .u64 e7.Set.e1), .v (.int .u64 e7.Set.e2), .v (.int .u64 e7.Set.e3)]) (x := e7.Set) (et := 3) (ok := false) (z := 0) keyok_24 ?_
         refine W.bs 2 [31] ?_ ?_
         · refine W.row 6 5 Ar4_dI_u64.d [e7.Set] [[]] 4 H (fun g370 H => ?_)
           refine W.apO (V := .slice t0_1 x0_1.length t0_2) (t := 24) (B' := (some (⟨g370, 0, none⟩ : Addr))) (n := 1) (C' := 1) 0 3 5 2 0 H (fun l371 A372 c373 u374 H => ?_)
           exact W.to 7 (ih0 (l330, l371, (w (x0_2 + 1))) (t0_0, A372, c373, _) _ (H.sub [0, 4, 5] rfl))
         · exact W.to 7 (ih0 (l330, x0_1, (w (x0_2 + 1))) (t0_0, t0_1, t0_2, _) _ (H.sub [1, 2, 3] rfl))
   · exact W.to 2 (kx0 x0_1 (t0_1, t0_2, _) _ (H.sub [0, 2] rfl))
def rx_tries_sSet_p (a0 : (List TNode)) (b0 : Nat) (A1 : Option Addr) (c2 : Nat) (r : (List Ar4_dI_u64) × Int) : Post := tPost (fun t : Option Addr × Nat × List Value => .tup [.v (.slice t.1 r.1.length t.2.1), .v (.int .i64 r.2)]) (fun t => [.f b0 [.slice A1 a0.length c2] 30, .o (.slice t.1 r.1.length t.2.1) r.1.length t.2.2 24 4]) (fun t => [.r 4 (r.1.map Ar4_dI_u64.d) t.2.2])
theorem rx_tries_sSet_c (n : Nat) (Φ : Phi) (a0 : (List TNode)) (b0 : Nat) (A1 : Option Addr) (c2 : Nat) (H : Reps Φ [.d (.row 7 a0.length (a0.map TNode.d)) (.slice A1 a0.length c2)]) : ∀ r, rx_tries_sSet n a0 = some r → CallG Try.prog 69 [.fn (.func 70) [.p 0 0]] [.f b0 [.slice A1 a0.length c2] 30] Φ ((rx_tries_sSet_p a0 b0 A1 c2) r) := by
 refine CallG.WN Try.func69 fun E G β0 => ?_
 rw [rx_tries_sSet]
 refine WN.unf 0 0 ?_
 refine WN.tr 8 1 1 1 [.slice none 0 0] (fun g3 => ?_)
 refine WN.tr 0 2 1 1 [.int .i64 0] (fun g4 => ?_)
 refine WN.defer 0 92 #[.pointer (some ⟨g3, 0, none⟩), .pointer (some ⟨g4, 0, none⟩)] ?_
 refine WN.nl 4 24 4 ?_
 replace H := Reps.nilR (enc := Ar4_dI_u64.d) (sz := 4) H
 refine WN.callD 0 [0] H (rx_Sets_1_c n _ _ b0 A1 c2 (H.sub [1] rfl)) ?_ ?_
 · rintro x5 ⟨A6, c7, u8⟩ Φ - H
   refine WN.sto 0 1 ?_
   refine WN.sto 0 2 ?_
   refine WN.retD 1 92 #[.pointer (some ⟨g3, 0, none⟩), .pointer (some ⟨g4, 0, none⟩)] Try.func92 (fun E2 G2 β2 => ?_)
   refine W.nn 3 false ?_
   exact W.endD 3 1 2 [0, 4] (A6, c7, _) [0] H
 · intro e9 Φ H r hr
   cases hr
   refine WN.panD 0 92 #[.pointer (some ⟨g3, 0, none⟩), .pointer (some ⟨g4, 0, none⟩)] Try.func92 (fun E2 G2 β2 => ?_)
   refine W.ta 9 (.int .i64 e9) ?_
   refine W.sto 21 1 ?_
   refine W.sto 0 2 ?_
   exact W.endD 1 1 2 [0, 3] (none, 0, _) [0] H
def rx_Sets_p (a0 : (List TNode)) (A1 : Option Addr) (c2 : Nat) (r : (List Ar4_dI_u64) × Int) : Post := tPost (fun t : Option Addr × Nat × List Value => .tup [.v (.slice t.1 r.1.length t.2.1), .v (.int .i64 r.2)]) (fun t => [.o (.slice t.1 r.1.length t.2.1) r.1.length t.2.2 24 4]) (fun t => [.r 4 (r.1.map Ar4_dI_u64.d) t.2.2])
theorem rx_Sets_c (n : Nat) (Φ : Phi) (a0 : (List TNode)) (A1 : Option Addr) (c2 : Nat) (H : Reps Φ [.d (.row 7 a0.length (a0.map TNode.d)) (.slice A1 a0.length c2)]) : ∀ r, rx_Sets n a0 = some r → CallG Try.prog 30 [.v (.slice A1 a0.length c2)] [] Φ ((rx_Sets_p a0 A1 c2) r) := by
 refine CallG.W Try.func30 fun E G β0 => ?_
 rw [rx_Sets]
 refine W.fz 9 0 H (fun g3 Φ H => ?_)
 refine W.call 0 [0] H (rx_tries_sSet_c n _ _ g3 A1 c2 (H.sub [0] rfl)) ?_
 rintro x4 ⟨A5, c6, u7⟩ Φ - H
 exact W.ret 5 [1] (A5, c6, _) [0] H
def ref04_Arity_p (a0 : Int)  (r : Int) : Post := tPost (fun t : Unit => .v (.int .i64 r)) (fun t => []) (fun t => [])
theorem ref04_Arity_c (Φ : Phi) (a0 : Int)  (H : Reps Φ []) : ∀ r, ref04_Arity a0 = some r → CallG Try.prog 14 [.v (.int .i64 a0)] [] Φ ((ref04_Arity_p a0) r) := by
 refine CallG.W Try.func14 fun E G β0 => ?_
 rw [ref04_Arity]
 refine W.bs 16 [4, 5] ?_ ?_
 · exact W.ret 7 [] () [] H
 · refine W.bs 6 [4, 6] ?_ ?_
   · exact W.ret 7 [] () [] H
   · refine W.bs 5 [4, 7] ?_ ?_
     · exact W.ret 5 [] () [] H
     · refine W.bs 7 [8, 9] ?_ ?_
       · exact W.ret 7 [] () [] H
       · refine W.bs 5 [8, 10] ?_ ?_
         · exact W.ret 5 [] () [] H
         · refine W.bs 7 [11, 12] ?_ ?_
           · exact W.ret 7 [] () [] H
           · refine W.bs 6 [11, 13] ?_ ?_
             · exact W.ret 7 [] () [] H
             · refine W.bs 6 [11, 14] ?_ ?_
               · exact W.ret 7 [] () [] H
               · refine W.bs 5 [11, 15] ?_ ?_
                 · exact W.ret 5 [] () [] H
                 · exact W.ret 7 [] () [] H
def ref04_Node_p (a0 : TNode)  (r : Bool) : Post := tPost (fun t : Unit => .v (.bool r)) (fun t => []) (fun t => [])
theorem ref04_Node_c (Φ : Phi) (a0 : TNode)  (H : Reps Φ []) : ∀ r, ref04_Node a0 = some r → CallG Try.prog 13 [.agg [.v (.int .i64 a0.Kind), .v (.int .u64 a0.Set.e0), .v (.int .u64 a0.Set.e1), .v (.int .u64 a0.Set.e2), .v (.int .u64 a0.Set.e3), .v (.int .i64 a0.Min), .v (.int .i64 a0.Max)]] [] Φ ((ref04_Node_p a0) r) := by
 refine CallG.W Try.func13 fun E G β0 => ?_
 rw [ref04_Node]
 refine W.fz 7 0 H (fun g1 Φ H => ?_)
 have H0 := H
 refine W.call 4 [] H (ref04_Arity_c _ _  (H.sub [] rfl)) ?_
 rintro x122 ⟨⟩ Φ - H
 refine W.bs 3 [6, 7] ?_ ?_
 · exact W.ret 15 [] () [] H
 · refine W.eq 7 (!((a0.Set.e0 == 0) && ((a0.Set.e1 == 0) && ((a0.Set.e2 == 0) && ((a0.Set.e3 == 0) && true))))) ?_
   refine W.bs 4 [15, 16] ?_ ?_
   · exact W.ret 5 [] () [] H
   · refine W.bs 9 [19] ?_ ?_
     · refine W.bs 7 [22, 23] ?_ ?_
       · exact W.ret 6 [] () [] H
       · exact W.ret 6 [] () [] H
     · refine W.bs 8 [30, 31] ?_ ?_
       · refine W.bs 5 [34, 35, 36] ?_ ?_
         · refine W.bs 4 [39, 40] ?_ ?_
           · exact W.ret 14 [] () [] H
           · refine W.bs 6 [45, 46] ?_ ?_
             · exact W.ret 8 [] () [] H
             · exact W.ret 8 [] () [] H
         · exact W.ret 18 [] () [] H
       · exact W.ret 23 [] () [] H
def ref04_Check_p (a0 : (List TNode)) (A1 : Option Addr) (c2 : Nat) (r : Int) : Post := tPost (fun t : Unit => .v (.int .i64 r)) (fun t => []) (fun t => [])
theorem ref04_Check_c (n : Nat) (Φ : Phi) (a0 : (List TNode)) (A1 : Option Addr) (c2 : Nat) (H : Reps Φ [.d (.row 7 a0.length (a0.map TNode.d)) (.slice A1 a0.length c2)]) : ∀ r, ref04_Check n a0 = some r → CallG Try.prog 11 [.v (.slice A1 a0.length c2)] [] Φ ((ref04_Check_p a0 A1 c2) r) := by
 refine CallG.W Try.func11 fun E G β0 => ?_
 rw [ref04_Check]
 refine W.lp 17 0 (fun m st => ref04_Check_L0 n a0 m st) (fun (st : Int × Int) (t : Unit) => ⟨fr 35 [(0, .v (.slice A1 a0.length c2)), (3, .v (.int .i64 st.1)), (6, .v (.slice A1 a0.length c2)), (7, .v (.int .i64 (a0.length : Int))), (8, .v (.int .i64 st.2))], []⟩) (fun (st : Int × Int) (t : Unit) => [.d (.row 7 a0.length (a0.map TNode.d)) (.slice A1 a0.length c2)]) (fun (st : Int) (t : Unit) => ⟨fr 35 [(0, .v (.slice A1 a0.length c2)), (3, .v (.int .i64 st))], []⟩) (fun (st : Int) (t : Unit) => [.d (.row 7 a0.length (a0.map TNode.d)) (.slice A1 a0.length c2)]) () (H.sub [0] rfl) (fun _ => rfl) ?_ ?_
 · rintro o0 ⟨⟩ Φ H
   refine W.bs 6 [32] ?_ ?_
   · exact W.ret 7 [] () [] H
   · exact W.ret 6 [] () [] H
 · intro m0 ih0 kx0
   rintro ⟨x0_0, x0_1⟩ ⟨⟩ Φ H
   rw [ref04_Check_L0]
   refine W.bs 5 [9] ?_ ?_
   · refine W.ix 7 0 .i64 H (fun e3 v4 H => ?_)
     refine W.ld 0 0 [] H ?_
     intro H
     refine W.call 8 [] H (ref04_Node_c _ _  (H.sub [] rfl)) ?_
     rintro x5 ⟨⟩ Φ - H
     refine W.bs 2 [15, 16] ?_ ?_
     · exact W.rt <| W.ret 13 [] () [] H
     · refine W.call 2 [] H (ref04_Arity_c _ _  (H.sub [] rfl)) ?_
       rintro x6 ⟨⟩ Φ - H
       refine W.bs 4 [21, 22] ?_ ?_
       · exact W.rt <| W.ret 6 [] () [] H
       · refine W.call 6 [] H (ref04_Arity_c _ _  (H.sub [] rfl)) ?_
         rintro x7 ⟨⟩ Φ - H
         exact W.to 9 (ih0 ((w ((w (x0_0 - x7)) + 1)), (w (x0_1 + 1))) () _ (H.sub [1] rfl))
   · exact W.to 2 (kx0 x0_0 () _ (H.sub [0] rfl))
def ref04_begin_p (a0 : (List TNode)) (a1 : Int) (A1 : Option Addr) (c2 : Nat) (r : Int) : Post := tPost (fun t : Unit => .v (.int .i64 r)) (fun t => []) (fun t => [])
theorem ref04_begin_c (n : Nat) (Φ : Phi) (a0 : (List TNode)) (a1 : Int) (A1 : Option Addr) (c2 : Nat) (H : Reps Φ [.d (.row 7 a0.length (a0.map TNode.d)) (.slice A1 a0.length c2)]) : ∀ r, ref04_begin n a0 a1 = some r → CallG Try.prog 63 [.v (.slice A1 a0.length c2), .v (.int .i64 a1)] [] Φ ((ref04_begin_p a0 a1 A1 c2) r) := by
 refine CallG.W Try.func63 fun E G β0 => ?_
 rw [ref04_begin]
 refine W.lp 16 0 (fun m st => ref04_begin_L0 n a0 m st) (fun (st : Int × Int) (t : Unit) => ⟨fr 24 [(0, .v (.slice A1 a0.length c2)), (5, .v (.int .i64 st.1)), (6, .v (.int .i64 st.2))], []⟩) (fun (st : Int × Int) (t : Unit) => [.d (.row 7 a0.length (a0.map TNode.d)) (.slice A1 a0.length c2)]) (fun (st : Unit) (t : Unit) => ⟨fr 24 [], []⟩) (fun (st : Unit) (t : Unit) => []) () (H.sub [0] rfl) (fun _ => rfl) ?_ ?_
 · rintro - ⟨⟩ Φ H
   exact W.ret 4 [] () [] H
 · intro m0 ih0 kx0
   rintro ⟨x0_0, x0_1⟩ ⟨⟩ Φ H
   rw [ref04_begin_L0]
   refine W.bs 6 [9] ?_ ?_
   · refine W.ix 10 0 .i64 H (fun e3 v4 H => ?_)
     refine W.fa 0 0 (x := .v (.int .i64 e3.Kind)) H (fun v5 H => ?_)
     refine W.ld 0 0 [] H ?_
     intro H
     refine W.call 0 [] H (ref04_Arity_c _ _  (H.sub [] rfl)) ?_
     rintro x6 ⟨⟩ Φ - H
     refine W.bs 8 [22] ?_ ?_
     · exact W.rt <| W.ret 6 [] () [] H
     · exact W.to 8 (ih0 ((w ((w (x0_0 - 1)) + x6)), (w (x0_1 - 1))) () _ (H.sub [2] rfl))
   · exact W.to 2 (kx0 () () _ (H.sub [] rfl))
def ref04_Parts_p (a0 : (List TNode)) (A1 : Option Addr) (c2 : Nat) (r : (List (List TNode))) : Post := tPost (fun t : Option Addr × Nat × List Value => .v (.slice t.1 r.length t.2.1)) (fun t => [.o (.slice t.1 r.length t.2.1) r.length t.2.2 30 1]) (fun t => [.r 1 (r.map dL_TNode_d) t.2.2])
theorem ref04_Parts_c (n : Nat) (Φ : Phi) (a0 : (List TNode)) (A1 : Option Addr) (c2 : Nat) (H : Reps Φ [.d (.row 7 a0.length (a0.map TNode.d)) (.slice A1 a0.length c2)]) : ∀ r, ref04_Parts n a0 = some r → CallG Try.prog 25 [.v (.slice A1 a0.length c2)] [] Φ ((ref04_Parts_p a0 A1 c2) r) := by
 refine CallG.W Try.func25 fun E G β0 => ?_
 rw [ref04_Parts]
 refine W.ix 16 0 .i64 H (fun e3 v4 H => ?_)
 refine W.fa 0 0 (x := .v (.int .i64 e3.Kind)) H (fun v5 H => ?_)
 refine W.ld 0 0 [] H ?_
 intro H
 refine W.call 0 [] H (ref04_Arity_c _ _  (H.sub [] rfl)) ?_
 rintro x6 ⟨⟩ Φ - H
 refine W.bs 7 [14, 15] ?_ ?_
 · refine W.dsl 6 2 H (fun l7 A8 c9 H => ?_)
   refine W.row 0 0 TNode.d [] [] 7 H (fun g10 H => ?_)
   refine W.apD (V := .slice (some (⟨g10, 0, none⟩ : Addr)) 0 0) (t := 26) 0 0 0 1 H (fun l11 A12 c13 u14 H => ?_)
   refine W.fr (B := A12) (n := l11.length) (c := c13) (t := 26) 3 0 0 H (fun Φ H => ?_)
   refine W.row 0 1 dL_TNode_d [l11] [[0]] 1 H (fun g15 H => ?_)
   exact W.ret 0 [1] ((some (⟨g15, 0, none⟩ : Addr)), 1, _) [0] H
 · refine W.bs 6 [22, 23] ?_ ?_
   · refine W.call 6 [] H (ref04_begin_c n _ _ _ A1 c2 (H.sub [2] rfl)) ?_
     rintro x16 ⟨⟩ Φ - H
     have H0 := H
     refine W.slt 9 3 2 false H0 H (fun l177 A178 c179 H0 H => ?_)
     refine W.slt 0 9 3 false H0 H (fun l417 A418 c419 H0 H => ?_)
     refine W.any2 0 0 5 ?_ ?_
     · refine W.any2 2 4 5 ?_ ?_
       · refine W.row 0 0 TNode.d [] [] 7 H (fun g217 H => ?_)
         refine W.apD (V := .slice (some (⟨g217, 0, none⟩ : Addr)) 0 0) (t := 26) 0 0 0 2 H (fun l218 A219 c220 u221 H => ?_)
         refine W.row 5 1 TNode.d [] [] 7 H (fun g457 H => ?_)
         refine W.apD (V := .slice (some (⟨g457, 0, none⟩ : Addr)) 0 0) (t := 26) 0 1 0 3 H (fun l458 A459 c460 u461 H => ?_)
         refine W.fr (B := A219) (n := l218.length) (c := c220) (t := 26) 6 0 2 H (fun Φ H => ?_)
         refine W.fr (B := A459) (n := l458.length) (c := c460) (t := 26) 0 1 1 H (fun Φ H => ?_)
         refine W.row 0 2 dL_TNode_d [l218, l458] [[1], [0]] 1 H (fun g577 H => ?_)
         exact W.ret 0 [2] ((some (⟨g577, 0, none⟩ : Addr)), 2, _) [0] H
       · skip
         refine W.row 3 0 TNode.d [] [] 7 H (fun g217 H => ?_)
         refine W.apD (V := .slice (some (⟨g217, 0, none⟩ : Addr)) 0 0) (t := 26) 0 0 0 2 H (fun l218 A219 c220 u221 H => ?_)
         refine W.row 2 1 TNode.d [] [] 7 H (fun g457 H => ?_)
         refine W.apD (V := .slice (some (⟨g457, 0, none⟩ : Addr)) 0 0) (t := 26) 0 1 0 3 H (fun l458 A459 c460 u461 H => ?_)
         refine W.fr (B := A219) (n := l218.length) (c := c220) (t := 26) 6 0 2 H (fun Φ H => ?_)
         refine W.fr (B := A459) (n := l458.length) (c := c460) (t := 26) 0 1 1 H (fun Φ H => ?_)
         refine W.row 0 2 dL_TNode_d [l218, l458] [[1], [0]] 1 H (fun g577 H => ?_)
         exact W.ret 0 [2] ((some (⟨g577, 0, none⟩ : Addr)), 2, _) [0] H
     · skip
       refine W.row 6 1 TNode.d [] [] 7 H (fun g217 H => ?_)
       refine W.apD (V := .slice (some (⟨g217, 0, none⟩ : Addr)) 0 0) (t := 26) 0 1 0 2 H (fun l218 A219 c220 u221 H => ?_)
       refine W.row 2 0 TNode.d [] [] 7 H (fun g457 H => ?_)
       refine W.apD (V := .slice (some (⟨g457, 0, none⟩ : Addr)) 0 0) (t := 26) 0 0 0 3 H (fun l458 A459 c460 u461 H => ?_)
       refine W.fr (B := A219) (n := l218.length) (c := c220) (t := 26) 6 1 2 H (fun Φ H => ?_)
       refine W.fr (B := A459) (n := l458.length) (c := c460) (t := 26) 0 0 1 H (fun Φ H => ?_)
       refine W.row 0 2 dL_TNode_d [l218, l458] [[1], [0]] 1 H (fun g577 H => ?_)
       exact W.ret 0 [2] ((some (⟨g577, 0, none⟩ : Addr)), 2, _) [0] H
   · refine W.nl 7 30 1 ?_
     replace H := Reps.nilR (enc := dL_TNode_d) (sz := 1) H
     exact W.ret 0 [0] (none, 0, _) [0] H
def ref04_Depth_p (a0 : (List TNode)) (A1 : Option Addr) (c2 : Nat) (r : Int) : Post := tPost (fun t : Unit => .v (.int .i64 r)) (fun t => []) (fun t => [])
theorem ref04_Depth_c : ∀ (n : Nat) (Φ : Phi) (a0 : (List TNode)) (A1 : Option Addr) (c2 : Nat) (H : Reps Φ [.d (.row 7 a0.length (a0.map TNode.d)) (.slice A1 a0.length c2)]), ∀ r, ref04_Depth n a0 = some r → CallG Try.prog 31 [.v (.slice A1 a0.length c2)] [] Φ ((ref04_Depth_p a0 A1 c2) r) := by
 intro n
 induction n with
 | zero => intro Φ a0 A1 c2 H r h; rw [ref04_Depth] at h; cases h
 | succ n ih =>
 intro Φ a0 A1 c2 H
 refine CallG.W Try.func31 fun E G β0 => ?_
 rw [ref04_Depth]
 refine W.call 12 [] H (ref04_Parts_c n _ _ A1 c2 (H.sub [0] rfl)) ?_
 rintro x3 ⟨A4, c5, u6⟩ Φ - H
 refine W.fr (B := A4) (n := x3.length) (c := c5) (t := 30) 5 0 0 H (fun Φ H => ?_)
 refine W.lp 0 0 (fun m st => ref04_Depth_L0 (ref04_Depth n) n x3 m st) (fun (st : Int × Int) (t : Unit) => ⟨fr 23 [(3, .v (.int .i64 st.1)), (8, .v (.slice A4 x3.length c5)), (9, .v (.int .i64 (x3.length : Int))), (10, .v (.int .i64 st.2))], []⟩) (fun (st : Int × Int) (t : Unit) => [.d (.row 1 x3.length (x3.map dL_TNode_d)) (.slice A4 x3.length c5)]) (fun (st : Int) (t : Unit) => ⟨fr 23 [(3, .v (.int .i64 st))], []⟩) (fun (st : Int) (t : Unit) => []) () (H.sub [0] rfl) (fun _ => rfl) ?_ ?_
 · rintro o0 ⟨⟩ Φ H
   exact W.ret 6 [] () [] H
 · intro m0 ih0 kx0
   rintro ⟨x0_0, x0_1⟩ ⟨⟩ Φ H
   rw [ref04_Depth_L0]
   refine W.bs 5 [11] ?_ ?_
   · refine W.ix 6 0 .i64 H (fun e7 v8 H => ?_)
     refine W.ld 0 0 [true] H ?_
     intro A9 c10 H
     refine W.call 5 [] H (ih _ _ A9 c10 (H.sub [0] rfl)) ?_
     rintro x11 ⟨⟩ Φ - H
     refine W.bs 8 [18] ?_ ?_
     · exact W.to 10 (ih0 (x11, (w (x0_1 + 1))) () _ (H.sub [2] rfl))
     · exact W.to 7 (ih0 (x0_0, (w (x0_1 + 1))) () _ (H.sub [2] rfl))
   · exact W.to 2 (kx0 x0_0 () _ (H.sub [] rfl))
def ref04_Count_p (a0 : (List TNode)) (a1 : (List Int)) (A1 : Option Addr) (c2 : Nat) (A3 : Option Addr) (c4 : Nat) (r : Int) : Post := tPost (fun t : Unit => .v (.int .i64 r)) (fun t => []) (fun t => [])
theorem ref04_Count_c (n : Nat) (Φ : Phi) (a0 : (List TNode)) (a1 : (List Int)) (A1 : Option Addr) (c2 : Nat) (A3 : Option Addr) (c4 : Nat) (H : Reps Φ [.d (.row 1 a1.length (a1.map (dI .i64))) (.slice A3 a1.length c4), .d (.row 7 a0.length (a0.map TNode.d)) (.slice A1 a0.length c2)]) : ∀ r, ref04_Count n a0 a1 = some r → CallG Try.prog 32 [.v (.slice A1 a0.length c2), .v (.slice A3 a1.length c4)] [] Φ ((ref04_Count_p a0 a1 A1 c2 A3 c4) r) := by
 refine CallG.W Try.func32 fun E G β0 => ?_
 rw [ref04_Count]
 refine W.lp 17 0 (fun m st => ref04_Count_L0 n a0 a1 m st) (fun (st : Int × Int) (t : Unit) => ⟨fr 39 [(1, .v (.slice A3 a1.length c4)), (5, .v (.int .i64 st.1)), (11, .v (.slice A1 a0.length c2)), (12, .v (.int .i64 (a0.length : Int))), (13, .v (.int .i64 st.2))], []⟩) (fun (st : Int × Int) (t : Unit) => [.d (.row 1 a1.length (a1.map (dI .i64))) (.slice A3 a1.length c4), .d (.row 7 a0.length (a0.map TNode.d)) (.slice A1 a0.length c2)]) (fun (st : Int) (t : Unit) => ⟨fr 39 [(5, .v (.int .i64 st))], []⟩) (fun (st : Int) (t : Unit) => []) () (H.sub [0, 1] rfl) (fun _ => rfl) ?_ ?_
 · rintro o0 ⟨⟩ Φ H
   exact W.ret 5 [] () [] H
 · intro m0 ih0 kx0
   rintro ⟨x0_0, x0_1⟩ ⟨⟩ Φ H
   rw [ref04_Count_L0]
   refine W.bs 5 [14] ?_ ?_
   · refine W.ix 6 1 .i64 H (fun e5 v6 H => ?_)
     refine W.ld 0 0 [] H ?_
     intro H
     refine W.lp 19 2 (fun m st => ref04_Count_L1 n a1 e5 m st) (fun (st : Bool × Int) (t : Unit) => ⟨fr 39 [(1, .v (.slice A3 a1.length c4)), (5, .v (.int .i64 x0_0)), (7, .p 0 0), (8, .v (.bool st.1)), (11, .v (.slice A1 a0.length c2)), (12, .v (.int .i64 (a0.length : Int))), (13, .v (.int .i64 x0_1)), (20, .v (.slice A3 a1.length c4)), (21, .v (.int .i64 (a1.length : Int))), (22, .v (.int .i64 st.2))], [.c [.v (.int .i64 e5.Kind), .v (.int .u64 e5.Set.e0), .v (.int .u64 e5.Set.e1), .v (.int .u64 e5.Set.e2), .v (.int .u64 e5.Set.e3), .v (.int .i64 e5.Min), .v (.int .i64 e5.Max)] 26]⟩) (fun (st : Bool × Int) (t : Unit) => [.d (.row 1 a1.length (a1.map (dI .i64))) (.slice A3 a1.length c4), .d (.row 7 a0.length (a0.map TNode.d)) (.slice A1 a0.length c2)]) (fun (st : Bool) (t : Unit) => ⟨fr 39 [(1, .v (.slice A3 a1.length c4)), (5, .v (.int .i64 x0_0)), (8, .v (.bool st)), (11, .v (.slice A1 a0.length c2)), (12, .v (.int .i64 (a0.length : Int))), (13, .v (.int .i64 x0_1))], []⟩) (fun (st : Bool) (t : Unit) => [.d (.row 1 a1.length (a1.map (dI .i64))) (.slice A3 a1.length c4), .d (.row 7 a0.length (a0.map TNode.d)) (.slice A1 a0.length c2)]) () (H.sub [1, 2] rfl) (fun _ => rfl) ?_ ?_
     · rintro o1 ⟨⟩ Φ H
       refine W.bs 4 [8, 34] ?_ ?_
       · exact W.to 11 (ih0 ((w (x0_0 + 1)), (w (x0_1 + 1))) () _ (H.sub [0, 1] rfl))
       · exact W.to 7 (ih0 (x0_0, (w (x0_1 + 1))) () _ (H.sub [0, 1] rfl))
     · intro m1 ih1 kx1
       rintro ⟨x1_0, x1_1⟩ ⟨⟩ Φ H
       rw [ref04_Count_L1]
       refine W.bs 5 [23] ?_ ?_
       · refine W.ix 6 0 .i64 H (fun e7 v8 H => ?_)
         refine W.ld 0 0 [] H ?_
         intro H
         refine W.bs 5 [8, 26, 27] ?_ ?_
         · exact W.to 12 (ih1 (true, (w (x1_1 + 1))) () _ (H.sub [1, 2] rfl))
         · exact W.to 12 (ih1 ((e5.Kind == e7), (w (x1_1 + 1))) () _ (H.sub [1, 2] rfl))
       · exact W.to 2 (kx1 x1_0 () _ (H.sub [0, 1] rfl))
   · exact W.to 2 (kx0 x0_0 () _ (H.sub [] rfl))
def ref04_Nullable_p (a0 : (List TNode)) (A1 : Option Addr) (c2 : Nat) (r : Bool) : Post := tPost (fun t : Unit => .v (.bool r)) (fun t => []) (fun t => [])
theorem ref04_Nullable_c : ∀ (n : Nat) (Φ : Phi) (a0 : (List TNode)) (A1 : Option Addr) (c2 : Nat) (H : Reps Φ [.d (.row 7 a0.length (a0.map TNode.d)) (.slice A1 a0.length c2)]), ∀ r, ref04_Nullable n a0 = some r → CallG Try.prog 33 [.v (.slice A1 a0.length c2)] [] Φ ((ref04_Nullable_p a0 A1 c2) r) := by
 intro n
 induction n with
 | zero => intro Φ a0 A1 c2 H r h; rw [ref04_Nullable] at h; cases h
 | succ n ih =>
 intro Φ a0 A1 c2 H
 refine CallG.W Try.func33 fun E G β0 => ?_
 rw [ref04_Nullable]
 refine W.call 7 [] H (ref04_Parts_c n _ _ A1 c2 (H.sub [0] rfl)) ?_
 rintro x3 ⟨A4, c5, u6⟩ Φ - H
 refine W.ix 9 1 .i64 H (fun e7 v8 H => ?_)
 refine W.ld 0 0 [] H ?_
 intro H
 refine W.bs 15 [15, 16] ?_ ?_
 · exact W.ret 7 [] () [] H
 · refine W.bs 6 [15, 17] ?_ ?_
   · exact W.ret 7 [] () [] H
   · refine W.bs 5 [15, 18] ?_ ?_
     · exact W.ret 5 [] () [] H
     · refine W.bs 6 [19, 20] ?_ ?_
       · refine W.fr (B := A4) (n := x3.length) (c := c5) (t := 30) 4 0 1 H (fun Φ H => ?_)
         refine W.ix 0 0 .i64 H (fun e9 v10 H => ?_)
         refine W.ld 0 0 [true] H ?_
         intro A11 c12 H
         refine W.call 0 [] H (ih _ _ A11 c12 (H.sub [0] rfl)) ?_
         rintro x13 ⟨⟩ Φ - H
         refine W.bs 1 [24, 25] ?_ ?_
         · refine W.ix 1 2 .i64 H (fun e14 v15 H => ?_)
           refine W.ld 0 0 [true] H ?_
           intro A16 c17 H
           refine W.call 0 [] H (ih _ _ A16 c17 (H.sub [0] rfl)) ?_
           rintro x18 ⟨⟩ Φ - H
           exact W.ret 3 [] () [] H
         · exact W.ret 7 [] () [] H
       · refine W.bs 6 [31, 32] ?_ ?_
         · refine W.fr (B := A4) (n := x3.length) (c := c5) (t := 30) 4 0 1 H (fun Φ H => ?_)
           refine W.ix 0 0 .i64 H (fun e19 v20 H => ?_)
           refine W.ld 0 0 [true] H ?_
           intro A21 c22 H
           refine W.call 0 [] H (ih _ _ A21 c22 (H.sub [0] rfl)) ?_
           rintro x23 ⟨⟩ Φ - H
           refine W.bs 1 [36, 37] ?_ ?_
           · exact W.ret 7 [] () [] H
           · refine W.ix 1 2 .i64 H (fun e24 v25 H => ?_)
             refine W.ld 0 0 [true] H ?_
             intro A26 c27 H
             refine W.call 0 [] H (ih _ _ A26 c27 (H.sub [0] rfl)) ?_
             rintro x28 ⟨⟩ Φ - H
             exact W.ret 3 [] () [] H
         · refine W.bs 6 [43, 44] ?_ ?_
           · refine W.fr (B := A4) (n := x3.length) (c := c5) (t := 30) 4 0 1 H (fun Φ H => ?_)
             refine W.ix 0 0 .i64 H (fun e29 v30 H => ?_)
             refine W.ld 0 0 [true] H ?_
             intro A31 c32 H
             refine W.call 0 [] H (ih _ _ A31 c32 (H.sub [0] rfl)) ?_
             rintro x33 ⟨⟩ Φ - H
             exact W.ret 2 [] () [] H
           · refine W.bs 6 [49, 50] ?_ ?_
             · refine W.bs 7 [53, 54] ?_ ?_
               · exact W.ret 7 [] () [] H
               · refine W.fr (B := A4) (n := x3.length) (c := c5) (t := 30) 1 0 1 H (fun Φ H => ?_)
                 refine W.ix 0 0 .i64 H (fun e34 v35 H => ?_)
                 refine W.ld 0 0 [true] H ?_
                 intro A36 c37 H
                 refine W.call 0 [] H (ih _ _ A36 c37 (H.sub [0] rfl)) ?_
                 rintro x38 ⟨⟩ Φ - H
                 exact W.ret 3 [] () [] H
             · exact W.ret 7 [] () [] H
def ref04_Sets_p (a0 : (List TNode)) (A1 : Option Addr) (c2 : Nat) (r : (List Ar4_dI_u64)) : Post := tPost (fun t : Option Addr × Nat × List Value => .v (.slice t.1 r.length t.2.1)) (fun t => [.o (.slice t.1 r.length t.2.1) r.length t.2.2 24 4]) (fun t => [.r 4 (r.map Ar4_dI_u64.d) t.2.2])
theorem ref04_Sets_c (n : Nat) (Φ : Phi) (a0 : (List TNode)) (A1 : Option Addr) (c2 : Nat) (H : Reps Φ [.d (.row 7 a0.length (a0.map TNode.d)) (.slice A1 a0.length c2)]) : ∀ r, ref04_Sets n a0 = some r → CallG Try.prog 35 [.v (.slice A1 a0.length c2)] [] Φ ((ref04_Sets_p a0 A1 c2) r) := by
 refine CallG.W Try.func35 fun E G β0 => ?_
 rw [ref04_Sets]
 refine W.nl 17 24 4 ?_
 replace H := Reps.nilR (enc := Ar4_dI_u64.d) (sz := 4) H
 refine W.lp 0 0 (fun m st => ref04_Sets_L0 n a0 m st) (fun (st : (List Ar4_dI_u64) × Int) (t : Option Addr × Nat × List Value) => ⟨fr 41 [(3, .v (.slice t.1 st.1.length t.2.1)), (9, .v (.slice A1 a0.length c2)), (10, .v (.int .i64 (a0.length : Int))), (11, .v (.int .i64 st.2))], [.o (.slice t.1 st.1.length t.2.1) st.1.length t.2.2 24 4]⟩) (fun (st : (List Ar4_dI_u64) × Int) (t : Option Addr × Nat × List Value) => [.r 4 (st.1.map Ar4_dI_u64.d) t.2.2, .d (.row 7 a0.length (a0.map TNode.d)) (.slice A1 a0.length c2)]) (fun (st : (List Ar4_dI_u64)) (t : Option Addr × Nat × List Value) => ⟨fr 41 [(3, .v (.slice t.1 st.length t.2.1))], [.o (.slice t.1 st.length t.2.1) st.length t.2.2 24 4]⟩) (fun (st : (List Ar4_dI_u64)) (t : Option Addr × Nat × List Value) => [.r 4 (st.map Ar4_dI_u64.d) t.2.2]) (none, 0, _) (H.sub [0, 1] rfl) (fun _ => rfl) ?_ ?_
 · rintro o0 ⟨y0_0, y0_1, y0_2⟩ Φ H
   exact W.ret 5 [0] (y0_0, y0_1, _) [0] H
 · intro m0 ih0 kx0
   rintro ⟨x0_0, x0_1⟩ ⟨t0_0, t0_1, t0_2⟩ Φ H
   rw [ref04_Sets_L0]
   refine W.bs 5 [12] ?_ ?_
   · refine W.ix 6 1 .i64 H (fun e3 v4 H => ?_)
     refine W.ld 0 0 [] H ?_
     intro H
     refine W.lp 19 2 (fun m st => ref04_Sets_L1 n x0_0 e3 m st) (fun (st : Bool × Int) (t : Option Addr × Nat × List Value) => ⟨fr 41 [(3, .v (.slice t.1 x0_0.length t.2.1)), (5, .p 1 0), (6, .v (.bool st.1)), (9, .v (.slice A1 a0.length c2)), (10, .v (.int .i64 (a0.length : Int))), (11, .v (.int .i64 x0_1)), (18, .v (.slice t.1 x0_0.length t.2.1)), (19, .v (.int .i64 (x0_0.length : Int))), (20, .v (.int .i64 st.2))], [.o (.slice t.1 x0_0.length t.2.1) x0_0.length t.2.2 24 4, .c [.v (.int .i64 e3.Kind), .v (.int .u64 e3.Set.e0), .v (.int .u64 e3.Set.e1), .v (.int .u64 e3.Set.e2), .v (.int .u64 e3.Set.e3), .v (.int .i64 e3.Min), .v (.int .i64 e3.Max)] 26]⟩) (fun (st : Bool × Int) (t : Option Addr × Nat × List Value) => [.r 4 (x0_0.map Ar4_dI_u64.d) t.2.2, .d (.row 7 a0.length (a0.map TNode.d)) (.slice A1 a0.length c2)]) (fun (st : Bool) (t : Option Addr × Nat × List Value) => ⟨fr 41 [(3, .v (.slice t.1 x0_0.length t.2.1)), (5, .p 1 0), (6, .v (.bool st)), (9, .v (.slice A1 a0.length c2)), (10, .v (.int .i64 (a0.length : Int))), (11, .v (.int .i64 x0_1))], [.o (.slice t.1 x0_0.length t.2.1) x0_0.length t.2.2 24 4, .c [.v (.int .i64 e3.Kind), .v (.int .u64 e3.Set.e0), .v (.int .u64 e3.Set.e1), .v (.int .u64 e3.Set.e2), .v (.int .u64 e3.Set.e3), .v (.int .i64 e3.Min), .v (.int .i64 e3.Max)] 26]⟩) (fun (st : Bool) (t : Option Addr × Nat × List Value) => [.r 4 (x0_0.map Ar4_dI_u64.d) t.2.2, .d (.row 7 a0.length (a0.map TNode.d)) (.slice A1 a0.length c2)]) (t0_0, t0_1, _) (H.sub [1, 2] rfl) (fun _ => rfl) ?_ ?_
     · rintro o1 ⟨y1_0, y1_1, y1_2⟩ Φ H
       refine W.bs 5 [33] ?_ ?_
       · refine W.row 6 2 Ar4_dI_u64.d [e3.Set] [[]] 4 H (fun g7 H => ?_)
         refine W.apO (V := .slice y1_0 x0_0.length y1_1) (t := 24) (B' := (some (⟨g7, 0, none⟩ : Addr))) (n := 1) (C' := 1) 0 0 2 1 0 H (fun l8 A9 c10 u11 H => ?_)
         exact W.to 7 (ih0 (l8, (w (x0_1 + 1))) (A9, c10, _) _ (H.sub [0, 3] rfl))
       · exact W.to 7 (ih0 (x0_0, (w (x0_1 + 1))) (y1_0, y1_1, _) _ (H.sub [0, 1] rfl))
     · intro m1 ih1 kx1
       rintro ⟨x1_0, x1_1⟩ ⟨t1_0, t1_1, t1_2⟩ Φ H
       rw [ref04_Sets_L1]
       refine W.bs 5 [21] ?_ ?_
       · refine W.rdo 6 0 0 .i64 [] (B := t1_0) (n := x0_0.length) (c := t1_1) (t := 24) H ?_
         intro e5 v6 H
         refine W.bs 6 [6, 24, 25] ?_ ?_
         · exact W.to 12 (ih1 (true, (w (x1_1 + 1))) (t1_0, t1_1, _) _ (H.sub [0, 1] rfl))
         · refine W.eq 3 ((e5.e0 == e3.Set.e0) && ((e5.e1 == e3.Set.e1) && ((e5.e2 == e3.Set.e2) && ((e5.e3 == e3.Set.e3) && true)))) ?_
           exact W.to 8 (ih1 (((e5.e0 == e3.Set.e0) && ((e5.e1 == e3.Set.e1) && ((e5.e2 == e3.Set.e2) && ((e5.e3 == e3.Set.e3) && true)))), (w (x1_1 + 1))) (t1_0, t1_1, _) _ (H.sub [0, 1] rfl))
       · exact W.to 2 (kx1 x1_0 (t1_0, t1_1, _) _ (H.sub [0, 1] rfl))
   · exact W.to 2 (kx0 x0_0 (t0_0, t0_1, _) _ (H.sub [0] rfl))
def slices_Equal_sSet_Set_p (a0 : (List Ar4_dI_u64)) (a1 : (List Ar4_dI_u64)) (A1 : Option Addr) (c2 : Nat) (A3 : Option Addr) (c4 : Nat) (r : Bool) : Post := tPost (fun t : Unit => .v (.bool r)) (fun t => []) (fun t => [])
theorem slices_Equal_sSet_Set_c (n : Nat) (Φ : Phi) (a0 : (List Ar4_dI_u64)) (a1 : (List Ar4_dI_u64)) (A1 : Option Addr) (c2 : Nat) (A3 : Option Addr) (c4 : Nat) (H : Reps Φ [.d (.row 4 a1.length (a1.map Ar4_dI_u64.d)) (.slice A3 a1.length c4), .d (.row 4 a0.length (a0.map Ar4_dI_u64.d)) (.slice A1 a0.length c2)]) : ∀ r, slices_Equal_sSet_Set n a0 a1 = some r → CallG Try.prog 34 [.v (.slice A1 a0.length c2), .v (.slice A3 a1.length c4)] [] Φ ((slices_Equal_sSet_Set_p a0 a1 A1 c2 A3 c4) r) := by
 refine CallG.W Try.func34 fun E G β0 => ?_
 rw [slices_Equal_sSet_Set]
 refine W.bs 13 [10] ?_ ?_
 · exact W.ret 5 [] () [] H
 · refine W.lp 11 0 (fun m st => slices_Equal_sSet_Set_L0 n a0 a1 m st) (fun (st : Int) (t : Unit) => ⟨fr 26 [(0, .v (.slice A1 a0.length c2)), (1, .v (.slice A3 a1.length c4)), (12, .v (.int .i64 (a0.length : Int))), (13, .v (.int .i64 st))], []⟩) (fun (st : Int) (t : Unit) => [.d (.row 4 a0.length (a0.map Ar4_dI_u64.d)) (.slice A1 a0.length c2), .d (.row 4 a1.length (a1.map Ar4_dI_u64.d)) (.slice A3 a1.length c4)]) (fun (st : Unit) (t : Unit) => ⟨fr 26 [], []⟩) (fun (st : Unit) (t : Unit) => []) () (H.sub [1, 0] rfl) (fun _ => rfl) ?_ ?_
   · rintro - ⟨⟩ Φ H
     exact W.ret 4 [] () [] H
   · intro m0 ih0 kx0
     rintro x0_0 ⟨⟩ Φ H
     rw [slices_Equal_sSet_Set_L0]
     refine W.bs 5 [14] ?_ ?_
     · have H0 := H
       refine W.ixt 15 2 0 .i64 H0 H (fun e125 v126 H0 H => ?_)
       refine W.ldt 0 3 0 [] true H0 H ?_
       intro H0 H
       refine W.ix 1 2 .i64 H (fun e285 v286 H => ?_)
       refine W.ld 2 0 [] H ?_
       intro H
       refine W.eq 2 (!((e125.e0 == e285.e0) && ((e125.e1 == e285.e1) && ((e125.e2 == e285.e2) && ((e125.e3 == e285.e3) && true))))) ?_
       refine W.bs 2 [24] ?_ ?_
       · exact W.rt <| W.ret 5 [] () [] H
       · exact W.to 7 (ih0 (w (x0_0 + 1)) () _ (H.sub [2, 3] rfl))
     · exact W.to 2 (kx0 () () _ (H.sub [] rfl))
def ref04_Join_p (a0 : TNode) (a1 : (List (List TNode))) (A1 : Option Addr) (c2 : Nat) (r : (List TNode)) : Post := tPost (fun t : Option Addr × Nat × List Value => .v (.slice t.1 r.length t.2.1)) (fun t => [.o (.slice t.1 r.length t.2.1) r.length t.2.2 26 7]) (fun t => [.r 7 (r.map TNode.d) t.2.2])
theorem ref04_Join_c (n : Nat) (Φ : Phi) (a0 : TNode) (a1 : (List (List TNode))) (A1 : Option Addr) (c2 : Nat) (H : Reps Φ [.d (.row 1 a1.length (a1.map dL_TNode_d)) (.slice A1 a1.length c2)]) : ∀ r, ref04_Join n a0 a1 = some r → CallG Try.prog 15 [.agg [.v (.int .i64 a0.Kind), .v (.int .u64 a0.Set.e0), .v (.int .u64 a0.Set.e1), .v (.int .u64 a0.Set.e2), .v (.int .u64 a0.Set.e3), .v (.int .i64 a0.Min), .v (.int .i64 a0.Max)], .v (.slice A1 a1.length c2)] [] Φ ((ref04_Join_p a0 a1 A1 c2) r) := by
 refine CallG.W Try.func15 fun E G β0 => ?_
 rw [ref04_Join]
 refine W.nl 18 26 7 ?_
 replace H := Reps.nilR (enc := TNode.d) (sz := 7) H
 refine W.lp 0 0 (fun m st => ref04_Join_L0 n a1 m st) (fun (st : (List TNode) × Int) (t : Option Addr × Nat × List Value) => ⟨fr 22 [(2, .p 0 0), (5, .v (.slice t.1 st.1.length t.2.1)), (8, .v (.slice A1 a1.length c2)), (9, .v (.int .i64 (a1.length : Int))), (10, .v (.int .i64 st.2))], [.c [.v (.int .i64 a0.Kind), .v (.int .u64 a0.Set.e0), .v (.int .u64 a0.Set.e1), .v (.int .u64 a0.Set.e2), .v (.int .u64 a0.Set.e3), .v (.int .i64 a0.Min), .v (.int .i64 a0.Max)] 26, .o (.slice t.1 st.1.length t.2.1) st.1.length t.2.2 26 7]⟩) (fun (st : (List TNode) × Int) (t : Option Addr × Nat × List Value) => [.r 7 (st.1.map TNode.d) t.2.2, .d (.row 1 a1.length (a1.map dL_TNode_d)) (.slice A1 a1.length c2)]) (fun (st : (List TNode)) (t : Option Addr × Nat × List Value) => ⟨fr 22 [(2, .p 0 0), (5, .v (.slice t.1 st.length t.2.1))], [.c [.v (.int .i64 a0.Kind), .v (.int .u64 a0.Set.e0), .v (.int .u64 a0.Set.e1), .v (.int .u64 a0.Set.e2), .v (.int .u64 a0.Set.e3), .v (.int .i64 a0.Min), .v (.int .i64 a0.Max)] 26, .o (.slice t.1 st.length t.2.1) st.length t.2.2 26 7]⟩) (fun (st : (List TNode)) (t : Option Addr × Nat × List Value) => [.r 7 (st.map TNode.d) t.2.2]) (none, 0, _) (H.sub [0, 1] rfl) (fun _ => rfl) ?_ ?_
 · rintro o0 ⟨y0_0, y0_1, y0_2⟩ Φ H
   refine W.row 5 2 TNode.d [a0] [[]] 7 H (fun g11 H => ?_)
   refine W.apO (V := .slice y0_0 o0.length y0_1) (t := 26) (B' := (some (⟨g11, 0, none⟩ : Addr))) (n := 1) (C' := 1) 0 1 2 1 0 H (fun l12 A13 c14 u15 H => ?_)
   exact W.ret 2 [1] (A13, c14, _) [0] H
 · intro m0 ih0 kx0
   rintro ⟨x0_0, x0_1⟩ ⟨t0_0, t0_1, t0_2⟩ Φ H
   rw [ref04_Join_L0]
   refine W.bs 5 [11] ?_ ?_
   · refine W.ix 6 1 .i64 H (fun e3 v4 H => ?_)
     refine W.ld 0 0 [true] H ?_
     intro A5 c6 H
     refine W.apD (V := .slice t0_0 x0_0.length t0_1) (t := 26) 5 1 2 0 H (fun l7 A8 c9 u10 H => ?_)
     exact W.to 7 (ih0 (l7, (w (x0_1 + 1))) (A8, c9, _) _ (H.sub [0, 4] rfl))
   · exact W.to 2 (kx0 x0_0 (t0_0, t0_1, _) _ (H.sub [0] rfl))
def ref04_Norm_p (a0 : (List TNode)) (A1 : Option Addr) (c2 : Nat) (r : (List TNode)) : Post := tPost (fun t : Option Addr × Nat × List Value => .v (.slice t.1 r.length t.2.1)) (fun t => [.o (.slice t.1 r.length t.2.1) r.length t.2.2 26 7]) (fun t => [.r 7 (r.map TNode.d) t.2.2])
theorem ref04_Norm_c : ∀ (n : Nat) (Φ : Phi) (a0 : (List TNode)) (A1 : Option Addr) (c2 : Nat) (H : Reps Φ [.d (.row 7 a0.length (a0.map TNode.d)) (.slice A1 a0.length c2)]), ∀ r, ref04_Norm n a0 = some r → CallG Try.prog 36 [.v (.slice A1 a0.length c2)] [] Φ ((ref04_Norm_p a0 A1 c2) r) := by
 intro n
 induction n with
 | zero => intro Φ a0 A1 c2 H r h; rw [ref04_Norm] at h; cases h
 | succ n ih =>
 intro Φ a0 A1 c2 H
 refine CallG.W Try.func36 fun E G β0 => ?_
 rw [ref04_Norm]
 refine W.ix 10 0 .i64 H (fun e3 v4 H => ?_)
 refine W.ld 0 0 [] H ?_
 intro H
 refine W.bs 10 [15, 16] ?_ ?_
 · refine W.bs 5 [19, 20] ?_ ?_
   · refine W.row 7 1 TNode.d [(⟨2, (⟨0, 0, 0, 0⟩ : Ar4_dI_u64), 0, 0⟩ : TNode)] [[]] 7 H (fun g5 H => ?_)
     exact W.ret 0 [1] ((some (⟨g5, 0, none⟩ : Addr)), 1, _) [0] H
   · refine W.call 10 [] H (ref04_Parts_c n _ _ A1 c2 (H.sub [1] rfl)) ?_
     rintro x6 ⟨A7, c8, u9⟩ Φ - H
     refine W.nl 5 30 1 ?_
     replace H := Reps.nilR (enc := dL_TNode_d) (sz := 1) H
     refine W.fr (B := A7) (n := x6.length) (c := c8) (t := 30) 0 1 1 H (fun Φ H => ?_)
     refine W.lp 0 0 (fun m st => ref04_Norm_L0 (ref04_Norm n) n x6 m st) (fun (st : (List (List TNode)) × Int) (t : Option Addr × Nat × List Value) => ⟨fr 39 [(3, .p 0 0), (4, .v (.slice t.1 st.1.length t.2.1)), (24, .v (.slice A7 x6.length c8)), (25, .v (.int .i64 (x6.length : Int))), (26, .v (.int .i64 st.2))], [.c [.v (.int .i64 e3.Kind), .v (.int .u64 e3.Set.e0), .v (.int .u64 e3.Set.e1), .v (.int .u64 e3.Set.e2), .v (.int .u64 e3.Set.e3), .v (.int .i64 e3.Min), .v (.int .i64 e3.Max)] 26, .dead, .o (.slice t.1 st.1.length t.2.1) st.1.length t.2.2 30 1]⟩) (fun (st : (List (List TNode)) × Int) (t : Option Addr × Nat × List Value) => [.r 1 (st.1.map dL_TNode_d) t.2.2, .d (.row 1 x6.length (x6.map dL_TNode_d)) (.slice A7 x6.length c8)]) (fun (st : (List (List TNode))) (t : Option Addr × Nat × List Value) => ⟨fr 39 [(3, .p 0 0), (4, .v (.slice t.1 st.length t.2.1))], [.c [.v (.int .i64 e3.Kind), .v (.int .u64 e3.Set.e0), .v (.int .u64 e3.Set.e1), .v (.int .u64 e3.Set.e2), .v (.int .u64 e3.Set.e3), .v (.int .i64 e3.Min), .v (.int .i64 e3.Max)] 26, .dead, .o (.slice t.1 st.length t.2.1) st.length t.2.2 30 1]⟩) (fun (st : (List (List TNode))) (t : Option Addr × Nat × List Value) => [.r 1 (st.map dL_TNode_d) t.2.2]) (none, 0, _) (H.sub [1, 0] rfl) (fun _ => rfl) ?_ ?_
     · rintro o0 ⟨y0_0, y0_1, y0_2⟩ Φ H
       refine W.fr (B := y0_0) (n := o0.length) (c := y0_1) (t := 30) 4 2 0 H (fun Φ H => ?_)
       refine W.call 0 [] H (ref04_Join_c n _ _ _ y0_0 y0_1 (H.sub [0] rfl)) ?_
       rintro x23 ⟨A24, c25, u26⟩ Φ - H
       exact W.ret 2 [3] (A24, c25, _) [0] H
     · intro m0 ih0 kx0
       rintro ⟨x0_0, x0_1⟩ ⟨t0_0, t0_1, t0_2⟩ Φ H
       rw [ref04_Norm_L0]
       refine W.bs 5 [27] ?_ ?_
       · refine W.ix 6 1 .i64 H (fun e10 v11 H => ?_)
         refine W.ld 0 0 [true] H ?_
         intro A12 c13 H
         refine W.call 5 [] H (ih _ _ A12 c13 (H.sub [0] rfl)) ?_
         rintro x14 ⟨A15, c16, u17⟩ Φ - H
         refine W.fr (B := A15) (n := x14.length) (c := c16) (t := 26) 1 3 0 H (fun Φ H => ?_)
         refine W.row 0 4 dL_TNode_d [x14] [[0]] 1 H (fun g18 H => ?_)
         refine W.apO (V := .slice t0_0 x0_0.length t0_1) (t := 30) (B' := (some (⟨g18, 0, none⟩ : Addr))) (n := 1) (C' := 1) 0 2 4 5 0 H (fun l19 A20 c21 u22 H => ?_)
         exact W.to 7 (ih0 (l19, (w (x0_1 + 1))) (A20, c21, _) _ (H.sub [0, 7] rfl))
       · exact W.to 2 (kx0 x0_0 (t0_0, t0_1, _) _ (H.sub [0] rfl))
 · refine W.call 15 [] H (ref04_Parts_c n _ _ A1 c2 (H.sub [1] rfl)) ?_
   rintro x27 ⟨A28, c29, u30⟩ Φ - H
   refine W.nl 5 30 1 ?_
   replace H := Reps.nilR (enc := dL_TNode_d) (sz := 1) H
   refine W.fr (B := A28) (n := x27.length) (c := c29) (t := 30) 0 1 1 H (fun Φ H => ?_)
   refine W.lp 0 0 (fun m st => ref04_Norm_L1 (ref04_Norm n) n x27 m st) (fun (st : (List (List TNode)) × Int) (t : Option Addr × Nat × List Value) => ⟨fr 39 [(3, .p 0 0), (4, .v (.slice t.1 st.1.length t.2.1)), (24, .v (.slice A28 x27.length c29)), (25, .v (.int .i64 (x27.length : Int))), (26, .v (.int .i64 st.2))], [.c [.v (.int .i64 e3.Kind), .v (.int .u64 e3.Set.e0), .v (.int .u64 e3.Set.e1), .v (.int .u64 e3.Set.e2), .v (.int .u64 e3.Set.e3), .v (.int .i64 e3.Min), .v (.int .i64 e3.Max)] 26, .dead, .o (.slice t.1 st.1.length t.2.1) st.1.length t.2.2 30 1]⟩) (fun (st : (List (List TNode)) × Int) (t : Option Addr × Nat × List Value) => [.r 1 (st.1.map dL_TNode_d) t.2.2, .d (.row 1 x27.length (x27.map dL_TNode_d)) (.slice A28 x27.length c29)]) (fun (st : (List (List TNode))) (t : Option Addr × Nat × List Value) => ⟨fr 39 [(3, .p 0 0), (4, .v (.slice t.1 st.length t.2.1))], [.c [.v (.int .i64 e3.Kind), .v (.int .u64 e3.Set.e0), .v (.int .u64 e3.Set.e1), .v (.int .u64 e3.Set.e2), .v (.int .u64 e3.Set.e3), .v (.int .i64 e3.Min), .v (.int .i64 e3.Max)] 26, .dead, .o (.slice t.1 st.length t.2.1) st.length t.2.2 30 1]⟩) (fun (st : (List (List TNode))) (t : Option Addr × Nat × List Value) => [.r 1 (st.map dL_TNode_d) t.2.2]) (none, 0, _) (H.sub [1, 0] rfl) (fun _ => rfl) ?_ ?_
   · rintro o1 ⟨y1_0, y1_1, y1_2⟩ Φ H
     refine W.fr (B := y1_0) (n := o1.length) (c := y1_1) (t := 30) 4 2 0 H (fun Φ H => ?_)
     refine W.call 0 [] H (ref04_Join_c n _ _ _ y1_0 y1_1 (H.sub [0] rfl)) ?_
     rintro x44 ⟨A45, c46, u47⟩ Φ - H
     exact W.ret 2 [3] (A45, c46, _) [0] H
   · intro m1 ih1 kx1
     rintro ⟨x1_0, x1_1⟩ ⟨t1_0, t1_1, t1_2⟩ Φ H
     rw [ref04_Norm_L1]
     refine W.bs 5 [27] ?_ ?_
     · refine W.ix 6 1 .i64 H (fun e31 v32 H => ?_)
       refine W.ld 0 0 [true] H ?_
       intro A33 c34 H
       refine W.call 5 [] H (ih _ _ A33 c34 (H.sub [0] rfl)) ?_
       rintro x35 ⟨A36, c37, u38⟩ Φ - H
       refine W.fr (B := A36) (n := x35.length) (c := c37) (t := 26) 1 3 0 H (fun Φ H => ?_)
       refine W.row 0 4 dL_TNode_d [x35] [[0]] 1 H (fun g39 H => ?_)
       refine W.apO (V := .slice t1_0 x1_0.length t1_1) (t := 30) (B' := (some (⟨g39, 0, none⟩ : Addr))) (n := 1) (C' := 1) 0 2 4 5 0 H (fun l40 A41 c42 u43 H => ?_)
       exact W.to 7 (ih1 (l40, (w (x1_1 + 1))) (A41, c42, _) _ (H.sub [0, 7] rfl))
     · exact W.to 2 (kx1 x1_0 (t1_0, t1_1, _) _ (H.sub [0] rfl))
def ref04_Same_p (a0 : (List TNode)) (a1 : (List TNode)) (A1 : Option Addr) (c2 : Nat) (A3 : Option Addr) (c4 : Nat) (r : Bool) : Post := tPost (fun t : Unit => .v (.bool r)) (fun t => []) (fun t => [])
theorem ref04_Same_c (n : Nat) (Φ : Phi) (a0 : (List TNode)) (a1 : (List TNode)) (A1 : Option Addr) (c2 : Nat) (A3 : Option Addr) (c4 : Nat) (H : Reps Φ [.d (.row 7 a1.length (a1.map TNode.d)) (.slice A3 a1.length c4), .d (.row 7 a0.length (a0.map TNode.d)) (.slice A1 a0.length c2)]) : ∀ r, ref04_Same n a0 a1 = some r → CallG Try.prog 16 [.v (.slice A1 a0.length c2), .v (.slice A3 a1.length c4)] [] Φ ((ref04_Same_p a0 a1 A1 c2 A3 c4) r) := by
 refine CallG.W Try.func16 fun E G β0 => ?_
 rw [ref04_Same]
 refine W.bs 13 [11] ?_ ?_
 · exact W.ret 5 [] () [] H
 · refine W.lp 11 0 (fun m st => ref04_Same_L0 n a0 a1 m st) (fun (st : Int) (t : Unit) => ⟨fr 26 [(1, .v (.slice A3 a1.length c4)), (12, .v (.slice A1 a0.length c2)), (13, .v (.int .i64 (a0.length : Int))), (14, .v (.int .i64 st))], []⟩) (fun (st : Int) (t : Unit) => [.d (.row 7 a1.length (a1.map TNode.d)) (.slice A3 a1.length c4), .d (.row 7 a0.length (a0.map TNode.d)) (.slice A1 a0.length c2)]) (fun (st : Unit) (t : Unit) => ⟨fr 26 [], []⟩) (fun (st : Unit) (t : Unit) => []) () (H.sub [0, 1] rfl) (fun _ => rfl) ?_ ?_
   · rintro - ⟨⟩ Φ H
     exact W.ret 4 [] () [] H
   · intro m0 ih0 kx0
     rintro x0_0 ⟨⟩ Φ H
     rw [ref04_Same_L0]
     refine W.bs 5 [15] ?_ ?_
     · refine W.ix 7 1 .i64 H (fun e5 v6 H => ?_)
       refine W.ld 0 0 [] H ?_
       intro H
       refine W.fz 5 0 H (fun g7 Φ H => ?_)
       have H0 := H
       refine W.ix 5 1 .i64 H (fun e168 v169 H => ?_)
       refine W.ld 2 0 [] H ?_
       intro H
       refine W.eq 2 (!((e5.Kind == e168.Kind) && (((e5.Set.e0 == e168.Set.e0) && ((e5.Set.e1 == e168.Set.e1) && ((e5.Set.e2 == e168.Set.e2) && ((e5.Set.e3 == e168.Set.e3) && true)))) && ((e5.Min == e168.Min) && ((e5.Max == e168.Max) && true))))) ?_
       refine W.bs 2 [24] ?_ ?_
       · exact W.rt <| W.ret 5 [] () [] H
       · exact W.to 7 (ih0 (w (x0_0 + 1)) () _ (H.sub [2, 3] rfl))
     · exact W.to 2 (kx0 () () _ (H.sub [] rfl))
def slices_Equal_sint_int_p (a0 : (List Int)) (a1 : (List Int)) (A1 : Option Addr) (c2 : Nat) (A3 : Option Addr) (c4 : Nat) (r : Bool) : Post := tPost (fun t : Unit => .v (.bool r)) (fun t => []) (fun t => [])
theorem slices_Equal_sint_int_c (n : Nat) (Φ : Phi) (a0 : (List Int)) (a1 : (List Int)) (A1 : Option Addr) (c2 : Nat) (A3 : Option Addr) (c4 : Nat) (H : Reps Φ [.d (.row 1 a1.length (a1.map (dI .i64))) (.slice A3 a1.length c4), .d (.row 1 a0.length (a0.map (dI .i64))) (.slice A1 a0.length c2)]) : ∀ r, slices_Equal_sint_int n a0 a1 = some r → CallG Try.prog 37 [.v (.slice A1 a0.length c2), .v (.slice A3 a1.length c4)] [] Φ ((slices_Equal_sint_int_p a0 a1 A1 c2 A3 c4) r) := by
 refine CallG.W Try.func37 fun E G β0 => ?_
 rw [slices_Equal_sint_int]
 refine W.bs 13 [10] ?_ ?_
 · exact W.ret 5 [] () [] H
 · refine W.lp 11 0 (fun m st => slices_Equal_sint_int_L0 n a0 a1 m st) (fun (st : Int) (t : Unit) => ⟨fr 26 [(0, .v (.slice A1 a0.length c2)), (1, .v (.slice A3 a1.length c4)), (12, .v (.int .i64 (a0.length : Int))), (13, .v (.int .i64 st))], []⟩) (fun (st : Int) (t : Unit) => [.d (.row 1 a0.length (a0.map (dI .i64))) (.slice A1 a0.length c2), .d (.row 1 a1.length (a1.map (dI .i64))) (.slice A3 a1.length c4)]) (fun (st : Unit) (t : Unit) => ⟨fr 26 [], []⟩) (fun (st : Unit) (t : Unit) => []) () (H.sub [1, 0] rfl) (fun _ => rfl) ?_ ?_
   · rintro - ⟨⟩ Φ H
     exact W.ret 4 [] () [] H
   · intro m0 ih0 kx0
     rintro x0_0 ⟨⟩ Φ H
     rw [slices_Equal_sint_int_L0]
     refine W.bs 5 [14] ?_ ?_
     · have H0 := H
       refine W.ixt 15 2 0 .i64 H0 H (fun e125 v126 H0 H => ?_)
       refine W.ldt 0 3 0 [] false H0 H ?_
       intro H0 H
       refine W.ix 1 2 .i64 H (fun e285 v286 H => ?_)
       refine W.ld 2 0 [] H ?_
       intro H
       refine W.bs 3 [24] ?_ ?_
       · exact W.rt <| W.ret 5 [] () [] H
       · exact W.to 7 (ih0 (w (x0_0 + 1)) () _ (H.sub [2, 3] rfl))
     · exact W.to 2 (kx0 () () _ (H.sub [] rfl))
def law04_RxTells_p (a0 : (List TNode)) (a1 : (List Int)) (A1 : Option Addr) (c2 : Nat) (A3 : Option Addr) (c4 : Nat) (r : Bool) : Post := tPost (fun t : Unit => .v (.bool r)) (fun t => []) (fun t => [])
theorem law04_RxTells_c (n : Nat) (Φ : Phi) (a0 : (List TNode)) (a1 : (List Int)) (A1 : Option Addr) (c2 : Nat) (A3 : Option Addr) (c4 : Nat) (H : Reps Φ [.d (.row 1 a1.length (a1.map (dI .i64))) (.slice A3 a1.length c4), .d (.row 7 a0.length (a0.map TNode.d)) (.slice A1 a0.length c2)]) : ∀ r, law04_RxTells n a0 a1 = some r → CallG Try.prog 7 [.v (.slice A1 a0.length c2), .v (.slice A3 a1.length c4)] [] Φ ((law04_RxTells_p a0 a1 A1 c2 A3 c4) r) := by
 refine CallG.W Try.func7 fun E G β0 => ?_
 rw [law04_RxTells]
 refine W.call 7 [] H (law04_wakes_c 100 _   (H.sub [] rfl)) ?_
 rintro x5 ⟨⟩ Φ - H
 refine W.bs 2 [19] ?_ ?_
 · exact W.ret 5 [] () [] H
 · have H0 := H
   refine W.any2 8 1 5 ?_ ?_
   · refine W.call 0 [] H (law04_own_c _ _ A1 c2 (H.sub [1] rfl)) ?_
     rintro x86 ⟨A87, c88, u89⟩ Φ - H
     refine W.mm 2 true .i64 (a1.length : Int) 6 ?_
     refine W.dsl 2 1 H (fun l286 A287 c288 H => ?_)
     refine W.call 2 [] H (slices_Clone_sint_int_c _ _ A287 c288 (H.sub [0] rfl)) ?_
     rintro x326 ⟨A327, c328, u329⟩ Φ - H
     refine W.fr (B := A87) (n := x86.length) (c := c88) (t := 26) 7 0 2 H (fun Φ H => ?_)
     refine W.call 0 [] H (rx_Depth_c n _ _ A87 c88 (H.sub [0] rfl)) ?_
     rintro x446 ⟨⟩ Φ - H
     refine W.fr (B := A327) (n := x326.length) (c := c328) (t := 3) 10 1 1 H (fun Φ H => ?_)
     refine W.call 0 [] H (rx_Count_c n _ _ _ A87 c88 A327 c328 (H.sub [0, 1] rfl)) ?_
     rintro x447 ⟨⟩ Φ - H
     refine W.call 9 [] H (rx_Nullable_c n _ _ A87 c88 (H.sub [1] rfl)) ?_
     rintro x448 ⟨⟩ Φ - H
     refine W.call 9 [] H (rx_Sets_c n _ _ A87 c88 (H.sub [1] rfl)) ?_
     rintro x449 ⟨A450, c451, u452⟩ Φ - H
     refine W.zap H (fun Φz453 hΦz453 HΦz453 H => ?_)
     have hz454 : PhiLe 0 Φz453 _ := H.lez 0
     refine W.call 9 [] H (rx_Norm_c n _ _ A87 c88 (H.sub [3] rfl)) ?_
     rintro x455 ⟨A456, c457⟩ Φ - H
     replace H := Reps.antiF hz454 H
     refine W.call 10 [] H (ref04_Check_c n _ _ A87 c88 (H.sub [4] rfl)) ?_
     rintro x458 ⟨⟩ Φ - H
     refine W.bs 2 [56] ?_ ?_
     · refine W.bs 6 [58, 59] ?_ ?_
       · refine W.bs 5 [62, 63, 64] ?_ ?_
         · refine W.bs 5 [67, 68, 69] ?_ ?_
           · refine W.bs 5 [72, 73, 74] ?_ ?_
             · refine W.bs 5 [77, 78, 79] ?_ ?_
               · refine W.bs 12 [89, 90, 91] ?_ ?_
                 · exact W.ret 5 [] () [] H
                 · exact W.ret 5 [] () [] H
               · exact W.ret 17 [] () [] H
             · exact W.ret 22 [] () [] H
           · exact W.ret 27 [] () [] H
         · exact W.ret 32 [] () [] H
       · exact W.ret 37 [] () [] H
     · refine W.bs 8 [96, 97] ?_ ?_
       · exact W.ret 58 [] () [] H
       · refine W.bs 5 [100, 101, 102] ?_ ?_
         · exact W.ret 53 [] () [] H
         · refine W.bs 5 [105, 106, 107] ?_ ?_
           · exact W.ret 48 [] () [] H
           · refine W.bs 5 [110, 111, 112] ?_ ?_
             · exact W.ret 43 [] () [] H
             · refine W.bs 5 [115, 116, 117] ?_ ?_
               · exact W.ret 38 [] () [] H
               · refine W.call 2 [] H (ref04_Depth_c n _ _ A87 c88 (H.sub [4] rfl)) ?_
                 rintro x459 ⟨⟩ Φ - H
                 refine W.bs 3 [121, 122, 123] ?_ ?_
                 · exact W.ret 32 [] () [] H
                 · refine W.call 3 [] H (ref04_Count_c n _ _ _ A87 c88 A327 c328 (H.sub [3, 4] rfl)) ?_
                   rintro x460 ⟨⟩ Φ - H
                   refine W.bs 3 [128, 129, 130] ?_ ?_
                   · exact W.ret 25 [] () [] H
                   · refine W.call 2 [] H (ref04_Nullable_c n _ _ A87 c88 (H.sub [4] rfl)) ?_
                     rintro x461 ⟨⟩ Φ - H
                     refine W.bs 3 [134, 135, 136] ?_ ?_
                     · exact W.ret 19 [] () [] H
                     · refine W.call 2 [] H (ref04_Sets_c n _ _ A87 c88 (H.sub [4] rfl)) ?_
                       rintro x462 ⟨A463, c464, u465⟩ Φ - H
                       refine W.fr (B := A450) (n := x449.1.length) (c := c451) (t := 24) 0 2 3 H (fun Φ H => ?_)
                       refine W.fr (B := A463) (n := x462.length) (c := c464) (t := 24) 0 3 1 H (fun Φ H => ?_)
                       refine W.call 0 [] H (slices_Equal_sSet_Set_c n _ _ _ A450 c451 A463 c464 (H.sub [0, 1] rfl)) ?_
                       rintro x466 ⟨⟩ Φ - H
                       refine W.bs 3 [141, 142, 143] ?_ ?_
                       · exact W.ret 12 [] () [] H
                       · refine W.call 2 [] H (ref04_Norm_c n _ _ A87 c88 (H.sub [7] rfl)) ?_
                         rintro x467 ⟨A468, c469, u470⟩ Φ - H
                         refine W.fr (B := A468) (n := x467.length) (c := c469) (t := 26) 0 4 0 H (fun Φ H => ?_)
                         replace H := Reps.addW H 5
                         refine W.call 0 [] H (ref04_Same_c n _ _ _ A456 c457 A468 c469 (H.sub [1, 0] rfl)) ?_
                         rintro x471 ⟨⟩ Φ - H
                         refine W.bs 3 [148, 149] ?_ ?_
                         · exact W.ret 5 [] () [] H
                         · refine W.thaw 11 6 7 hΦz453 HΦz453 H (fun Φ u472 H => ?_)
                           refine W.lp 0 0 (fun m st => law04_RxTells_L0 n x455 m st) (fun (st : (List TNode) × Int) (t : Option Addr × Nat × List Value) => ⟨fr 172 [(0, .v (.slice A1 a0.length c2)), (1, .v (.slice A3 a1.length c4)), (5, .v (.slice A87 x86.length c88)), (6, .v (.slice A327 x326.length c328)), (15, .v (.slice t.1 st.1.length t.2.1)), (151, .v (.int .i64 (x455.1.length : Int))), (152, .v (.int .i64 st.2))], [.dead, .dead, .dead, .dead, .dead, .o (.slice t.1 st.1.length t.2.1) st.1.length t.2.2 26 7]⟩) (fun (st : (List TNode) × Int) (t : Option Addr × Nat × List Value) => [.r 7 (st.1.map TNode.d) t.2.2, .d (.row 7 a0.length (a0.map TNode.d)) (.slice A1 a0.length c2), .d (.row 1 a1.length (a1.map (dI .i64))) (.slice A3 a1.length c4), .d (.row 7 x86.length (x86.map TNode.d)) (.slice A87 x86.length c88), .d (.row 1 x326.length (x326.map (dI .i64))) (.slice A327 x326.length c328), .le Φz453]) (fun (st : Unit) (t : Unit) => ⟨fr 172 [(0, .v (.slice A1 a0.length c2)), (1, .v (.slice A3 a1.length c4)), (5, .v (.slice A87 x86.length c88)), (6, .v (.slice A327 x326.length c328))], []⟩) (fun (st : Unit) (t : Unit) => [.d (.row 7 a0.length (a0.map TNode.d)) (.slice A1 a0.length c2), .d (.row 1 a1.length (a1.map (dI .i64))) (.slice A3 a1.length c4), .d (.row 7 x86.length (x86.map TNode.d)) (.slice A87 x86.length c88), .d (.row 1 x326.length (x326.map (dI .i64))) (.slice A327 x326.length c328), .le Φz453]) (A456, c457, _) (H.sub [0, 9, 8, 4, 3, 1] rfl) (fun _ => rfl) ?_ ?_
                           · rintro - ⟨⟩ Φ H
                             refine W.call 4 [] H (law04_own_c _ _ A1 c2 (H.sub [0] rfl)) ?_
                             rintro x478 ⟨A479, c480, u481⟩ Φ - H
                             refine W.fr (B := A479) (n := x478.length) (c := c480) (t := 26) 0 0 0 H (fun Φ H => ?_)
                             refine W.call 0 [] H (ref04_Same_c n _ _ _ A87 c88 A479 c480 (H.sub [0, 4] rfl)) ?_
                             rintro x482 ⟨⟩ Φ - H
                             refine W.bs 1 [163, 164] ?_ ?_
                             · refine W.dsl 4 3 H (fun l483 A484 c485 H => ?_)
                               refine W.call 0 [] H (slices_Equal_sint_int_c n _ _ _ A327 c328 A484 c485 (H.sub [0, 6] rfl)) ?_
                               rintro x486 ⟨⟩ Φ - H
                               exact W.ret 3 [] () [] H
                             · exact W.ret 9 [] () [] H
                           · intro m0 ih0 kx0
                             rintro ⟨x0_0, x0_1⟩ ⟨t0_0, t0_1, t0_2⟩ Φ H
                             rw [law04_RxTells_L0]
                             refine W.bs 5 [153] ?_ ?_
                             · refine W.ixg fun e473 hze473 he473 => ?_
                               refine W.ixo 12 5 0 .i64 (B := t0_0) (n := x0_0.length) (c := t0_1) (t := 26) hze473 he473 H (fun v474 H => ?_)
                               refine W.fao 0 0 (kk := 0) H (fun v475 H => ?_)
                               refine W.sro 0 5 2 0 (y := ({ e473 with Kind := 0 } : TNode)) (kk := 0) (ds := [.v (.int .i64 0)]) (us := [.int .i64 0]) (es := []) (B := t0_0) (n := x0_0.length) (c := t0_1) (t := 26) he473 [] H (fun l476 u477 H => ?_) ⟨rfl, trivial⟩
                               refine W.rel 0 5 0 [15, 155] (l := l476) (B := t0_0) (n := x0_0.length) (c := t0_1) (vs := u477) (t := 26) (sz := 7) H ?_
                               exact W.to 6 (ih0 (l476, (w (x0_1 + 1))) (t0_0, t0_1, _) _ (H.sub [0, 4, 5, 6, 7, 8] rfl))
                             · exact W.to 2 (kx0 () () _ (H.sub [1, 2, 3, 4, 5] rfl))
   · refine W.cast comm_BS ?_
     refine W.mm 0 true .i64 (a1.length : Int) 6 ?_
     refine W.slt 1 6 0 false H0 H (fun l286 A287 c288 H0 H => ?_)
     refine W.call 1 [] H (law04_own_c _ _ A1 c2 (H.sub [2] rfl)) ?_
     rintro x86 ⟨A87, c88, u89⟩ Φ - H
     refine W.call 2 [] H (slices_Clone_sint_int_c _ _ A287 c288 (H.sub [1] rfl)) ?_
     rintro x326 ⟨A327, c328, u329⟩ Φ - H
     refine W.fr (B := A87) (n := x86.length) (c := c88) (t := 26) 7 0 1 H (fun Φ H => ?_)
     refine W.call 0 [] H (rx_Depth_c n _ _ A87 c88 (H.sub [0] rfl)) ?_
     rintro x446 ⟨⟩ Φ - H
     refine W.fr (B := A327) (n := x326.length) (c := c328) (t := 3) 10 1 1 H (fun Φ H => ?_)
     refine W.call 0 [] H (rx_Count_c n _ _ _ A87 c88 A327 c328 (H.sub [0, 1] rfl)) ?_
     rintro x447 ⟨⟩ Φ - H
     refine W.call 9 [] H (rx_Nullable_c n _ _ A87 c88 (H.sub [1] rfl)) ?_
     rintro x448 ⟨⟩ Φ - H
     refine W.call 9 [] H (rx_Sets_c n _ _ A87 c88 (H.sub [1] rfl)) ?_
     rintro x449 ⟨A450, c451, u452⟩ Φ - H
     refine W.zap H (fun Φz453 hΦz453 HΦz453 H => ?_)
     have hz454 : PhiLe 0 Φz453 _ := H.lez 0
     refine W.call 9 [] H (rx_Norm_c n _ _ A87 c88 (H.sub [3] rfl)) ?_
     rintro x455 ⟨A456, c457⟩ Φ - H
     replace H := Reps.antiF hz454 H
     refine W.call 10 [] H (ref04_Check_c n _ _ A87 c88 (H.sub [4] rfl)) ?_
     rintro x458 ⟨⟩ Φ - H
     refine W.bs 2 [56] ?_ ?_
     · refine W.bs 6 [58, 59] ?_ ?_
       · refine W.bs 5 [62, 63, 64] ?_ ?_
         · refine W.bs 5 [67, 68, 69] ?_ ?_
           · refine W.bs 5 [72, 73, 74] ?_ ?_
             · refine W.bs 5 [77, 78, 79] ?_ ?_
               · refine W.bs 12 [89, 90, 91] ?_ ?_
                 · exact W.ret 5 [] () [] H
                 · exact W.ret 5 [] () [] H
               · exact W.ret 17 [] () [] H
             · exact W.ret 22 [] () [] H
           · exact W.ret 27 [] () [] H
         · exact W.ret 32 [] () [] H
       · exact W.ret 37 [] () [] H
     · refine W.bs 8 [96, 97] ?_ ?_
       · exact W.ret 58 [] () [] H
       · refine W.bs 5 [100, 101, 102] ?_ ?_
         · exact W.ret 53 [] () [] H
         · refine W.bs 5 [105, 106, 107] ?_ ?_
           · exact W.ret 48 [] () [] H
           · refine W.bs 5 [110, 111, 112] ?_ ?_
             · exact W.ret 43 [] () [] H
             · refine W.bs 5 [115, 116, 117] ?_ ?_
               · exact W.ret 38 [] () [] H
               · refine W.call 2 [] H (ref04_Depth_c n _ _ A87 c88 (H.sub [4] rfl)) ?_
                 rintro x459 ⟨⟩ Φ - H
                 refine W.bs 3 [121, 122, 123] ?_ ?_
                 · exact W.ret 32 [] () [] H
                 · refine W.call 3 [] H (ref04_Count_c n _ _ _ A87 c88 A327 c328 (H.sub [3, 4] rfl)) ?_
                   rintro x460 ⟨⟩ Φ - H
                   refine W.bs 3 [128, 129, 130] ?_ ?_
                   · exact W.ret 25 [] () [] H
                   · refine W.call 2 [] H (ref04_Nullable_c n _ _ A87 c88 (H.sub [4] rfl)) ?_
                     rintro x461 ⟨⟩ Φ - H
                     refine W.bs 3 [134, 135, 136] ?_ ?_
                     · exact W.ret 19 [] () [] H
                     · refine W.call 2 [] H (ref04_Sets_c n _ _ A87 c88 (H.sub [4] rfl)) ?_
                       rintro x462 ⟨A463, c464, u465⟩ Φ - H
                       refine W.fr (B := A450) (n := x449.1.length) (c := c451) (t := 24) 0 2 3 H (fun Φ H => ?_)
                       refine W.fr (B := A463) (n := x462.length) (c := c464) (t := 24) 0 3 1 H (fun Φ H => ?_)
                       refine W.call 0 [] H (slices_Equal_sSet_Set_c n _ _ _ A450 c451 A463 c464 (H.sub [0, 1] rfl)) ?_
                       rintro x466 ⟨⟩ Φ - H
                       refine W.bs 3 [141, 142, 143] ?_ ?_
                       · exact W.ret 12 [] () [] H
                       · refine W.call 2 [] H (ref04_Norm_c n _ _ A87 c88 (H.sub [7] rfl)) ?_
                         rintro x467 ⟨A468, c469, u470⟩ Φ - H
                         refine W.fr (B := A468) (n := x467.length) (c := c469) (t := 26) 0 4 0 H (fun Φ H => ?_)
                         replace H := Reps.addW H 5
                         refine W.call 0 [] H (ref04_Same_c n _ _ _ A456 c457 A468 c469 (H.sub [1, 0] rfl)) ?_
                         rintro x471 ⟨⟩ Φ - H
                         refine W.bs 3 [148, 149] ?_ ?_
                         · exact W.ret 5 [] () [] H
                         · refine W.thaw 11 6 7 hΦz453 HΦz453 H (fun Φ u472 H => ?_)
                           refine W.lp 0 0 (fun m st => law04_RxTells_L0 n x455 m st) (fun (st : (List TNode) × Int) (t : Option Addr × Nat × List Value) => ⟨fr 172 [(0, .v (.slice A1 a0.length c2)), (1, .v (.slice A3 a1.length c4)), (5, .v (.slice A87 x86.length c88)), (6, .v (.slice A327 x326.length c328)), (15, .v (.slice t.1 st.1.length t.2.1)), (151, .v (.int .i64 (x455.1.length : Int))), (152, .v (.int .i64 st.2))], [.dead, .dead, .dead, .dead, .dead, .o (.slice t.1 st.1.length t.2.1) st.1.length t.2.2 26 7]⟩) (fun (st : (List TNode) × Int) (t : Option Addr × Nat × List Value) => [.r 7 (st.1.map TNode.d) t.2.2, .d (.row 7 a0.length (a0.map TNode.d)) (.slice A1 a0.length c2), .d (.row 1 a1.length (a1.map (dI .i64))) (.slice A3 a1.length c4), .d (.row 7 x86.length (x86.map TNode.d)) (.slice A87 x86.length c88), .d (.row 1 x326.length (x326.map (dI .i64))) (.slice A327 x326.length c328), .le Φz453]) (fun (st : Unit) (t : Unit) => ⟨fr 172 [(0, .v (.slice A1 a0.length c2)), (1, .v (.slice A3 a1.length c4)), (5, .v (.slice A87 x86.length c88)), (6, .v (.slice A327 x326.length c328))], []⟩) (fun (st : Unit) (t : Unit) => [.d (.row 7 a0.length (a0.map TNode.d)) (.slice A1 a0.length c2), .d (.row 1 a1.length (a1.map (dI .i64))) (.slice A3 a1.length c4), .d (.row 7 x86.length (x86.map TNode.d)) (.slice A87 x86.length c88), .d (.row 1 x326.length (x326.map (dI .i64))) (.slice A327 x326.length c328), .le Φz453]) (A456, c457, _) (H.sub [0, 9, 8, 4, 3, 1] rfl) (fun _ => rfl) ?_ ?_
                           · rintro - ⟨⟩ Φ H
                             refine W.call 4 [] H (law04_own_c _ _ A1 c2 (H.sub [0] rfl)) ?_
                             rintro x478 ⟨A479, c480, u481⟩ Φ - H
                             refine W.fr (B := A479) (n := x478.length) (c := c480) (t := 26) 0 0 0 H (fun Φ H => ?_)
                             refine W.call 0 [] H (ref04_Same_c n _ _ _ A87 c88 A479 c480 (H.sub [0, 4] rfl)) ?_
                             rintro x482 ⟨⟩ Φ - H
                             refine W.bs 1 [163, 164] ?_ ?_
                             · refine W.dsl 4 3 H (fun l483 A484 c485 H => ?_)
                               refine W.call 0 [] H (slices_Equal_sint_int_c n _ _ _ A327 c328 A484 c485 (H.sub [0, 6] rfl)) ?_
                               rintro x486 ⟨⟩ Φ - H
                               exact W.ret 3 [] () [] H
                             · exact W.ret 9 [] () [] H
                           · intro m0 ih0 kx0
                             rintro ⟨x0_0, x0_1⟩ ⟨t0_0, t0_1, t0_2⟩ Φ H
                             rw [law04_RxTells_L0]
                             refine W.bs 5 [153] ?_ ?_
                             · refine W.ixg fun e473 hze473 he473 => ?_
                               refine W.ixo 12 5 0 .i64 (B := t0_0) (n := x0_0.length) (c := t0_1) (t := 26) hze473 he473 H (fun v474 H => ?_)
                               refine W.fao 0 0 (kk := 0) H (fun v475 H => ?_)
                               refine W.sro 0 5 2 0 (y := ({ e473 with Kind := 0 } : TNode)) (kk := 0) (ds := [.v (.int .i64 0)]) (us := [.int .i64 0]) (es := []) (B := t0_0) (n := x0_0.length) (c := t0_1) (t := 26) he473 [] H (fun l476 u477 H => ?_) ⟨rfl, trivial⟩
                               refine W.rel 0 5 0 [15, 155] (l := l476) (B := t0_0) (n := x0_0.length) (c := t0_1) (vs := u477) (t := 26) (sz := 7) H ?_
                               exact W.to 6 (ih0 (l476, (w (x0_1 + 1))) (t0_0, t0_1, _) _ (H.sub [0, 4, 5, 6, 7, 8] rfl))
                             · exact W.to 2 (kx0 () () _ (H.sub [1, 2, 3, 4, 5] rfl))
end Go.Sx
