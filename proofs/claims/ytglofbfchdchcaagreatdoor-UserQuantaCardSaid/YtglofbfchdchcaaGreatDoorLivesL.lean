/- What a run of the law 'UserQuanta' comes to, in parts: each part's heaps ahead and behind are told, and Lean's kernel runs it; a part that another one calls is taken up as told. No conditions. -/
import Derived.Test.YtglofbfchdchcaaGreatDoorRows
import Derived.KernelRfl
import Derived.Test.YtglofbfchdchcaaGreatDoorAbsD
open Go
namespace Go.Proofs.YtglofbfchdchcaaGreatDoor.userQuanta
open Go.Abs
namespace L
noncomputable section
set_option maxRecDepth 1000000

noncomputable def G : Nat := Tryz.prog.globals.size
noncomputable def isTab : List (Nat × List Value) := laidTabs Tryz.prog Rows.userQuantaRow.laid
@[reducible] def Fx : Facts := F0
def mgs : FuncId → Bool := fun _ => false
def J (n : Nat) : AV := .val (.int .i64 (.ofNat n))
def Jn (n : Nat) : AV := .val (.int .i64 (.negSucc n))
def Yes : AV := .val (.bool true)
def No : AV := .val (.bool false)
def bytesL (l : List Nat) : ByteArray := ⟨⟨l.map fun n => n.toUInt8⟩⟩
theorem allNil {α : Type} {p : α → Prop} : ∀ m ∈ ([] : List α), p m := fun _ h => by cases h
theorem allCons {α : Type} {p : α → Prop} {a : α} {l : List α} (h : p a) (t : ∀ m ∈ l, p m) : ∀ m ∈ a :: l, p m := fun m hm => by
  rcases List.mem_cons.1 hm with rfl | hm
  · exact h
  · exact t m hm
noncomputable def q0 : HS := ⟨patch (startL G isTab).h [(7, rowK 1 ((J 13) :: (J 0) :: (J 1) :: (J 0) :: (J 9) :: (J 0) :: (J 0) :: (J 0) :: (J 11) :: (J 0) :: (J 0) :: (J 0) :: []) none),
  (8, rowK 2 ((.sl 7 0 4 3 (some 3)) :: []) none)], 9, 2, 0⟩
noncomputable def q1 : HS := ⟨patch q0.h [], 9, 2, 0⟩
noncomputable def q2 : HS := ⟨patch q1.h [(15, rowK 13 ((J 1) :: (J 65536) :: []) none),
  (31, rowK 41 ((J 0) :: (J 7) :: []) none),
  (63, rowK 329 (rpt (J 0) 32 ([])) none),
  (47, rowK 180 (upto 0 40 ([])) none),
  (23, rowK 27 ((J 0) :: (J 0) :: []) none),
  (39, rowK 499 ((J 1) :: rpt (J 0) 31 ([])) none),
  (55, rowK 217 (rpt (J 0) 4 ([])) none),
  (11, rowK 5 ((J 13) :: (J 0) :: (J 1) :: (J 0) :: []) none),
  (19, rowK 20 ((J 9) :: (J 0) :: (J 0) :: (J 0) :: []) none),
  (35, rowK 49 ((J 0) :: (J 0) :: []) none),
  (67, rowK 493 ((.sl 38 0 1 1 none) :: (.ptr 42 0) :: (.ptr 51 0) :: (.ptr 57 0) :: (.ptr 65 0) :: (.mp 66) :: (J 0) :: []) none),
  (51, rowK 213 ((.sl 44 0 1 4 (some 4)) :: (.sl 45 0 1 32 (some 32)) :: (.ptr 50 0) :: []) none),
  (27, rowK 35 ((J 0) :: (J 0) :: []) none),
  (43, rowK 90 ((Jn 0) :: []) none),
  (59, rowK 325 (rpt (J 0) 32 ([])) none),
  (9, rowK 3 ((.sl 7 0 4 3 (some 3)) :: []) none),
  (17, rowK 17 ((J 0) :: (J 7) :: []) none),
  (33, rowK 45 ((J 0) :: (J 0) :: []) none),
  (65, rowK 491 ((.sl 58 0 3 32 (some 32)) :: (.sl 59 0 1 32 (some 32)) :: (.ptr 64 0) :: []) none),
  (49, rowK 99 (rpt (J 0) 8 ([])) none),
  (25, rowK 31 ((J 0) :: (J 0) :: []) none),
  (41, some (502, .map [((J 65536), (.agg [(J 65536), (J 1), (J 1), (J 0), (J 0), (J 0), (J 0), (J 0), (J 0), (J 0), (J 0), (J 0), (J 0), (J 0), (J 0)]), 0)] 1)),
  (57, rowK 323 ((J 4) :: (J 32) :: rpt (J 0) 64 ((.ptr 56 0) :: [])) none),
  (13, rowK 9 ((J 0) :: (J 7) :: []) none),
  (21, rowK 23 ((.val (.string (bytesL [101, 110, 116, 101, 114]))) :: (.val (.string (bytesL [45, 45, 45]))) :: []) none),
  (37, rowK 52 ([]) none),
  (69, rowK 496 (rpt (J 0) 11 ([])) none),
  (53, rowK 290 (upto 0 36 ([])) none),
  (29, rowK 37 ((J 11) :: (J 0) :: (J 0) :: (J 0) :: []) none),
  (45, rowK 95 (rpt (J 0) 32 ([])) none),
  (61, rowK 458 (upto 0 64 ([])) none),
  (16, rowK 15 ((J 1) :: (J 65536) :: []) none),
  (32, rowK 43 ((J 0) :: (J 7) :: []) none),
  (64, rowK 330 ((J 32) :: (.sl 60 0 1 64 (some 64)) :: (.sl 61 0 1 64 (some 64)) :: (.sl 62 0 1 32 (some 32)) :: (.sl 63 0 1 32 (some 32)) :: []) none),
  (48, rowK 212 (rpt (Jn 0) 32 ([])) none),
  (24, rowK 29 ((J 0) :: (J 0) :: []) none),
  (40, rowK 501 ((.sl 39 0 1 32 (some 32)) :: (.val (.int .u64 (.ofNat 4294967294))) :: rpt (.val (.int .u64 (.ofNat 0))) 63 ((J 1) :: [])) none),
  (56, rowK 218 ((J 32) :: (.sl 52 0 1 36 (some 36)) :: (.sl 53 0 1 36 (some 36)) :: (.sl 54 0 1 32 (some 32)) :: (.sl 55 0 1 4 (some 4)) :: []) none),
  (12, rowK 7 ((.val (.string (bytesL [115, 112, 97, 119, 110]))) :: (.val (.string (bytesL [112, 107, 114]))) :: []) none),
  (20, rowK 21 ((J 9) :: (J 0) :: (J 0) :: (J 0) :: []) none),
  (36, rowK 51 ((J 0) :: (J 0) :: []) none),
  (68, rowK 497 (rpt (J 0) 11 ([])) none),
  (52, rowK 289 (upto 0 36 ([])) none),
  (28, rowK 36 ((J 11) :: (J 0) :: (J 0) :: (J 0) :: []) none),
  (44, rowK 94 (rpt (Jn 0) 4 ([])) none),
  (60, rowK 457 (upto 0 64 ([])) none),
  (10, rowK 4 ((J 13) :: (J 0) :: (J 1) :: (J 0) :: []) none),
  (18, rowK 19 ((J 0) :: (J 7) :: []) none),
  (34, rowK 47 ((J 0) :: (J 0) :: []) none),
  (66, some (492, .map [] 0)),
  (50, rowK 100 ((J 32) :: (.sl 46 0 1 40 (some 40)) :: (.sl 47 0 1 40 (some 40)) :: (.sl 48 0 1 32 (some 32)) :: (.sl 49 0 1 8 (some 8)) :: []) none),
  (26, rowK 33 ((J 0) :: (J 0) :: []) none),
  (42, rowK 89 ((.ptr 40 0) :: (.mp 41) :: []) none),
  (58, rowK 503 ((J 65536) :: (J 1) :: rpt (J 0) 94 ([])) none),
  (14, rowK 11 ((J 0) :: (J 7) :: []) none),
  (22, rowK 25 ((J 0) :: (J 0) :: []) none),
  (38, rowK 53 ((.sl 7 0 4 3 (some 3)) :: []) (some 1)),
  (70, rowK 498 (rpt (J 0) 11 ([])) none),
  (54, rowK 322 (rpt (Jn 0) 32 ([])) none),
  (30, rowK 39 ((.val (.string (bytesL [101, 120, 105, 116]))) :: (.val (.string (bytesL [114, 45, 45]))) :: []) none),
  (46, rowK 179 (upto 0 40 ([])) none),
  (62, rowK 490 (rpt (Jn 0) 32 ([])) none)], 71, 503, 0⟩
noncomputable def q3 : HS := ⟨patch q2.h [(79, rowK 518 ((.ptr 67 0) :: (.ptr 76 0) :: (.ptr 78 0) :: rpt (J 0) 32 ([])) none),
  (71, rowK 540 (rpt (J 0) 32 ([])) none),
  (87, rowK 534 ((J 65536) :: (J 1) :: (J 1) :: rpt (J 0) 12 ([])) none),
  (83, none),
  (75, rowK 539 ((J 1) :: (J 1) :: rpt (J 0) 126 ([])) none),
  (91, rowK 541 ((J 0) :: []) none),
  (81, rowK 528 ((.sl 86 0 1 1 none) :: []) none),
  (73, rowK 545 ((J 0) :: rpt (Jn 0) 31 ([])) none),
  (89, rowK 537 ((J 65536) :: (J 1) :: (J 1) :: rpt (J 0) 12 ([])) none),
  (85, rowK 526 ((J 65536) :: []) none),
  (77, rowK 516 (rpt (J 0) 32 ([])) none),
  (80, rowK 519 ((.mp 41) :: []) none),
  (72, rowK 505 ((Jn 0) :: []) none),
  (88, rowK 535 ((J 65536) :: (J 1) :: (J 1) :: rpt (J 0) 12 ([])) (some 15)),
  (84, none),
  (76, rowK 515 ((J 0) :: (.sl 75 0 4 32 (some 32)) :: (.ptr 74 0) :: []) none),
  (92, rowK 544 ((J 0) :: []) (some 1)),
  (82, none),
  (74, rowK 543 ((.sl 92 0 1 1 none) :: (.sl 71 0 1 32 (some 32)) :: (.sl 73 0 1 32 (some 32)) :: []) none),
  (90, rowK 538 ((J 1) :: []) none),
  (86, rowK 527 ((J 65536) :: []) (some 1)),
  (78, rowK 517 ((.sl 77 0 1 32 (some 32)) :: (J 0) :: (J 0) :: []) none)], 93, 545, 0⟩
noncomputable def m0 : Memo := ⟨9, [(.sl 8 0 1 1 (some 1)), (J 1)], q1, (.tup [(.ptr 67 0), (J 0)]), q2⟩
noncomputable def m1 : Memo := ⟨4, [(.sl 8 0 1 1 (some 1)), (J 1)], q0, (.tup [(.ptr 79 0), (J 0)]), q3⟩

theorem rm0 : (letI : Facts := Fx; letI := noLoops; m0.holds (callN Tryz.prog (cfgM mgs [] 100000) 200 (.f m0.g) m0.xs m0.s)) = true := by kernel_rfl
theorem km0 [V : @Vals Fx] (B : Nat) : @MemoOK Fx V Tryz.prog B m0 :=
  letI : Facts := Fx; letI := noLoops; memo_ok (memo_known (E := []) noLoops_ok (allNil)) (fun _ h => region_any h) rm0

theorem rm1 : (letI : Facts := Fx; letI := noLoops; m1.holds (callN Tryz.prog (cfgM mgs [m0] 100000) 200 (.f m1.g) m1.xs m1.s)) = true := by kernel_rfl
theorem km1 [V : @Vals Fx] (B : Nat) : @MemoOK Fx V Tryz.prog B m1 :=
  letI : Facts := Fx; letI := noLoops; memo_ok (memo_known (E := [m0]) noLoops_ok (allCons (km0 B) allNil)) (fun _ h => region_any h) rm1

noncomputable def cfgL : Cfg := cfgM mgs [m1] 100000
@[reducible] noncomputable def loopsL : Loops := noLoops
theorem tameL [V : @Vals Fx] : @TameL loopsL := noTame
theorem run_lives : ((@callN Fx Tryz.prog loopsL cfgL 200 (.f 8) [] (startL Tryz.prog.globals.size isTab)).every 1000000000 isTrue) = true := by kernel_rfl
theorem known_lives [V : @Vals Fx] (B : Nat) : @KnownOK Fx V loopsL Tryz.prog B cfgL :=
  letI : Facts := Fx; letI := noLoops; memo_known (E := [m1]) noLoops_ok (allCons (km1 B) allNil)
end
end L
end Go.Proofs.YtglofbfchdchcaaGreatDoor.userQuanta
