/-
  The tables by which the evaluator reads this program: made by a program (tools/env.py) out of the translation; that they fit is proved elsewhere.
-/
import Derived.Test.YtdfbmemomndnnaaGreatDoorZA
import Derived.Test.YtdfbmemomndnnaaGreatDoorZH
import Derived.Laws.Tables
import Derived.Test.YtdfbmemomndnnaaGreatDoorProg
import Derived.KernelRfl
namespace Go.Ev
def find1 {α : Type} : List (Nat × α) → Nat → Option α
  | [], _ => none
  | (a, x) :: r, t => bif Nat.beq t a then some x else find1 r t
def E.fldL : List (Nat × List (Nat × Nat)) := [(7, [(0, 1), (1, 1), (2, 1), (3, 1)]), (8, [(0, 1), (1, 1), (2, 1), (3, 1)]), (13, [(0, 1), (1, 1)]), (14, [(0, 1), (1, 1)]), (18, [(0, 1)]), (19, [(0, 1)]), (22, [(0, 1), (1, 1), (2, 1)]), (23, [(0, 1), (1, 1), (2, 1)]), (27, [(0, 3), (3, 1), (4, 3), (7, 3), (10, 1), (11, 1), (12, 1)]), (28, [(0, 3), (3, 1), (4, 3), (7, 3), (10, 1), (11, 1), (12, 1)]), (40, [(0, 1), (1, 1)]), (41, [(0, 1), (1, 1)]), (43, [(0, 1), (1, 1), (2, 1)]), (44, [(0, 1), (1, 1), (2, 1)]), (51, [(0, 1), (1, 1), (2, 1)]), (52, [(0, 1), (1, 1), (2, 1)]), (89, [(0, 1), (1, 1), (2, 1)]), (90, [(0, 1), (1, 1), (2, 1)]), (96, [(0, 1), (1, 1)]), (97, [(0, 1), (1, 1)]), (163, [(0, 1), (1, 1), (2, 1)]), (164, [(0, 1), (1, 1), (2, 1)]), (179, [(0, 1)]), (180, [(0, 1)]), (187, [(0, 1), (1, 1)]), (188, [(0, 1), (1, 1)]), (196, [(0, 1), (1, 1), (2, 1), (3, 1)]), (197, [(0, 1), (1, 1), (2, 1), (3, 1)]), (207, [(0, 1), (1, 1), (2, 1), (3, 1), (4, 1), (5, 1), (6, 1), (7, 1), (8, 1), (9, 1), (10, 1)]), (208, [(0, 1), (1, 1), (2, 1), (3, 1), (4, 1), (5, 1), (6, 1), (7, 1), (8, 1), (9, 1), (10, 1)])]
def E.aggL : List (Nat × Option Nat) := [(1, none), (2, none), (3, none), (4, none), (5, none), (6, none), (7, some 4), (8, some 4), (9, none), (10, none), (11, none), (12, none), (13, some 2), (14, some 2), (15, none), (16, none), (17, none), (18, some 1), (19, some 1), (20, none), (21, none), (22, some 3), (23, some 3), (24, none), (25, none), (26, none), (27, some 13), (28, some 13), (29, none), (30, none), (31, none), (33, none), (34, none), (35, none), (36, none), (37, none), (38, none), (39, none), (40, some 2), (41, some 2), (42, none), (43, some 3), (44, some 3), (45, none), (47, none), (48, none), (49, none), (50, none), (51, some 3), (52, some 3), (53, none), (54, none), (55, none), (56, none), (57, none), (58, none), (59, none), (60, none), (61, none), (62, none), (63, none), (64, none), (65, none), (66, none), (67, none), (68, none), (70, none), (72, none), (73, none), (74, none), (76, none), (77, none), (78, none), (79, none), (81, none), (82, none), (83, none), (84, none), (85, none), (86, none), (87, none), (88, none), (89, some 3), (90, some 3), (92, none), (93, none), (94, none), (95, none), (96, some 2), (97, some 2), (99, none), (100, none), (101, none), (102, some 3), (103, none), (104, none), (106, none), (107, none), (108, none), (109, none), (110, none), (111, none), (112, none), (113, none), (114, none), (115, none), (116, none), (117, none), (118, none), (119, none), (120, none), (122, none), (124, none), (125, none), (126, none), (127, none), (128, none), (130, none), (131, none), (133, none), (134, none), (135, none), (136, none), (137, none), (139, none), (140, none), (141, none), (142, none), (143, some 24), (144, none), (145, none), (147, none), (148, none), (152, none), (153, none), (154, none), (156, none), (157, none), (158, none), (160, none), (161, none), (162, none), (163, some 3), (164, some 3), (165, none), (166, none), (167, none), (168, some 20), (169, none), (170, some 65), (171, none), (172, none), (173, none), (175, none), (176, none), (177, none), (178, none), (179, some 1), (180, some 1), (181, none), (182, none), (183, none), (185, none), (187, some 2), (188, some 2), (189, some 32), (191, none), (192, some 32), (193, some 64), (194, none), (195, none), (196, some 4), (197, some 4), (198, some 0), (199, some 0), (200, some 0), (201, none), (202, none), (203, none), (204, none), (205, none), (206, none), (207, some 11), (208, some 11)]
def E.kdL : List (Nat × K) := [(24, .ava), (25, .ava), (26, .mod), (36, .byte), (42, .str), (50, .elem), (74, .ptr), (110, .int), (116, .typ), (119, .rdn), (120, .rdn)]
def E.zeroL : List (Nat × List Z) := [(2, [.int .i64]), (3, [.int .i64]), (5, [.int .u8]), (6, [.int .u8]), (7, [.int .i64, .int .i64, .bool, .int .u8]), (8, [.int .i64, .int .i64, .bool, .int .u8]), (12, [.int .u64]), (13, [.str, .int .u64]), (14, [.str, .int .u64]), (18, [.other]), (19, [.other]), (21, [.int .i32]), (22, [.int .i64, .int .i64, .int .i64]), (23, [.int .i64, .int .i64, .int .i64]), (27, [.int .i64, .int .i64, .int .i64, .int .i64, .int .i64, .int .i64, .int .i64, .int .i64, .int .i64, .int .i64, .sl .ava, .bool, .sl .mod]), (28, [.int .i64, .int .i64, .int .i64, .int .i64, .int .i64, .int .i64, .int .i64, .int .i64, .int .i64, .int .i64, .sl .ava, .bool, .sl .mod]), (31, [.int .i64]), (35, [.int .u16]), (40, [.str, .str]), (41, [.str, .str]), (43, [.int .i64, .str, .sl .str]), (44, [.int .i64, .str, .sl .str]), (51, [.int .u8, .str, .sl .elem]), (52, [.int .u8, .str, .sl .elem]), (89, [.str, .int .i64, .bool]), (90, [.str, .int .i64, .bool]), (96, [.str, .int .i64]), (97, [.str, .int .i64]), (100, [.int .u64]), (102, [.int .i64, .int .i64, .int .i64]), (136, [.int .i64]), (137, [.int .u64]), (143, [.int .u8, .int .u8, .int .u8, .int .u8, .int .u8, .int .u8, .int .u8, .int .u8, .int .u8, .int .u8, .int .u8, .int .u8, .int .u8, .int .u8, .int .u8, .int .u8, .int .u8, .int .u8, .int .u8, .int .u8, .int .u8, .int .u8, .int .u8, .int .u8]), (163, [.str, .str, .err]), (164, [.str, .str, .err]), (168, [.int .u64, .int .u64, .int .u64, .int .u64, .int .u64, .int .u64, .int .u64, .int .u64, .int .u64, .int .u64, .int .u64, .int .u64, .int .u64, .int .u64, .int .u64, .int .u64, .int .u64, .int .u64, .int .u64, .int .u64]), (169, [.int .u32]), (170, [.int .u8, .int .u8, .int .u8, .int .u8, .int .u8, .int .u8, .int .u8, .int .u8, .int .u8, .int .u8, .int .u8, .int .u8, .int .u8, .int .u8, .int .u8, .int .u8, .int .u8, .int .u8, .int .u8, .int .u8, .int .u8, .int .u8, .int .u8, .int .u8, .int .u8, .int .u8, .int .u8, .int .u8, .int .u8, .int .u8, .int .u8, .int .u8, .int .u8, .int .u8, .int .u8, .int .u8, .int .u8, .int .u8, .int .u8, .int .u8, .int .u8, .int .u8, .int .u8, .int .u8, .int .u8, .int .u8, .int .u8, .int .u8, .int .u8, .int .u8, .int .u8, .int .u8, .int .u8, .int .u8, .int .u8, .int .u8, .int .u8, .int .u8, .int .u8, .int .u8, .int .u8, .int .u8, .int .u8, .int .u8, .int .u8]), (179, [.str]), (180, [.str]), (187, [.int .u8, .int .u8]), (188, [.int .u8, .int .u8]), (189, [.int .u8, .int .u8, .int .u8, .int .u8, .int .u8, .int .u8, .int .u8, .int .u8, .int .u8, .int .u8, .int .u8, .int .u8, .int .u8, .int .u8, .int .u8, .int .u8, .int .u8, .int .u8, .int .u8, .int .u8, .int .u8, .int .u8, .int .u8, .int .u8, .int .u8, .int .u8, .int .u8, .int .u8, .int .u8, .int .u8, .int .u8, .int .u8]), (192, [.int .u8, .int .u8, .int .u8, .int .u8, .int .u8, .int .u8, .int .u8, .int .u8, .int .u8, .int .u8, .int .u8, .int .u8, .int .u8, .int .u8, .int .u8, .int .u8, .int .u8, .int .u8, .int .u8, .int .u8, .int .u8, .int .u8, .int .u8, .int .u8, .int .u8, .int .u8, .int .u8, .int .u8, .int .u8, .int .u8, .int .u8, .int .u8]), (193, [.int .u8, .int .u8, .int .u8, .int .u8, .int .u8, .int .u8, .int .u8, .int .u8, .int .u8, .int .u8, .int .u8, .int .u8, .int .u8, .int .u8, .int .u8, .int .u8, .int .u8, .int .u8, .int .u8, .int .u8, .int .u8, .int .u8, .int .u8, .int .u8, .int .u8, .int .u8, .int .u8, .int .u8, .int .u8, .int .u8, .int .u8, .int .u8, .int .u8, .int .u8, .int .u8, .int .u8, .int .u8, .int .u8, .int .u8, .int .u8, .int .u8, .int .u8, .int .u8, .int .u8, .int .u8, .int .u8, .int .u8, .int .u8, .int .u8, .int .u8, .int .u8, .int .u8, .int .u8, .int .u8, .int .u8, .int .u8, .int .u8, .int .u8, .int .u8, .int .u8, .int .u8, .int .u8, .int .u8, .int .u8]), (196, [.other, .other, .other, .str]), (197, [.other, .other, .other, .str]), (199, []), (200, []), (202, [.int .u8]), (203, [.int .u8]), (205, [.int .i32]), (206, [.int .i32]), (207, [.int .u64, .int .u64, .int .u32, .int .u8, .int .u8, .int .u8, .int .u8, .other, .other, .int .i32, .int .i32]), (208, [.int .u64, .int .u64, .int .u32, .int .u8, .int .u8, .int .u8, .int .u8, .other, .other, .int .i32, .int .i32])]
def E.ikL : List (Nat × IntKind) := [(2, .i64), (3, .i64), (5, .u8), (6, .u8), (12, .u64), (21, .i32), (31, .i64), (35, .u16), (100, .u64), (136, .i64), (137, .u64), (169, .u32), (202, .u8), (203, .u8), (205, .i32), (206, .i32)]
def E.strL : List Nat := [9, 10, 11]
def E.eqkL : List (Nat × Nat) := [(4, 1), (20, 3), (23, 16), (41, 15), (103, 3), (104, 3)]
def E.arrL : List (Nat × Nat) := [(102, 3), (143, 24), (168, 20), (170, 65), (192, 32), (193, 64), (198, 0)]
def E.liveL : List (Nat × List (Nat × List Nat × List Nat × List Nat)) := [(5, [(14, ([1, 3, 4, 6, 7], [1, 3, 4], [4010, 4012, 5010, 5012])), (11, ([1, 3, 4, 6], [1, 3, 4], [4010, 4012, 5010, 5012])), (7, ([1, 3, 4, 5], [1, 3, 4], [4010, 4012, 5010, 5012]))]), (9, [(14, ([1, 4, 5, 10, 37, 38, 39, 51, 52, 53], [1], [4, 5, 49, 10002])), (10, ([1, 4, 5, 37, 38, 39], [1], [4, 5])), (5, ([1, 4, 5, 20, 21, 22], [1], [4, 5]))]), (13, [(10, ([2, 3, 5, 6, 7, 8], [2, 3, 6, 7], [7002, 8002])), (4, ([2, 3, 5], [2, 3], []))]), (15, [(4, ([1, 2, 14, 15, 16], [1, 2], [3010, 3012]))]), (16, [(26, ([0, 2, 10, 19, 122, 123, 124, 151, 152, 153], [2, 10, 19], [3010, 3012, 11010, 11012, 20002, 62010, 62012, 149002])), (19, ([0, 2, 10, 122, 123, 124], [2, 10], [3010, 3012, 11010, 11012, 62010, 62012])), (15, ([0, 2, 4, 10, 13, 14], [2, 4, 10], [3010, 3012, 5002, 11010, 11012, 62010, 62012])), (7, ([0, 2, 4, 10, 65, 66, 67], [2, 4, 10], [65, 3010, 3012, 5002, 11010, 11012, 62010, 62012]))]), (17, [(7, ([0, 3, 4], [], [])), (2, ([0, 3], [], []))]), (18, [(2, ([0, 3], [], []))]), (29, [(2, ([0, 1, 9, 10, 11], [], []))]), (33, [(4, ([0, 3], [], []))]), (34, [(9, ([0, 1, 5, 6, 9], [6], [7002])), (2, ([0, 1, 5], [], []))]), (35, [(4, ([1, 2, 15, 16, 17], [], []))]), (37, [(4, ([0, 1, 12, 13], [], []))]), (38, [(4, ([0, 1, 12, 13], [], []))]), (39, [(4, ([0, 1, 5], [], []))]), (44, [(7, ([0, 4, 21, 22, 23], [], [21]))]), (45, [(6, ([0, 2, 5, 17, 18, 19], [2, 5], []))]), (46, [(4, ([3, 4], [], [8, 25, 5025]))]), (48, [(3, ([3, 7, 8, 9], [], []))]), (49, [(3, ([1, 4, 13, 14, 15], [1], [11]))]), (51, [(3, ([3, 6, 7, 8], [], []))]), (54, [(2, ([0, 5, 6, 7], [], []))]), (58, [(3, ([0, 2, 8, 9, 10], [2], []))]), (61, [(9, ([0, 3, 4], [], [])), (4, ([0, 3], [], []))]), (62, [(9, ([1, 5, 7, 8, 9], [5], []))]), (63, [(3, ([0, 2, 4, 5], [2], []))]), (64, [(17, ([0, 3, 8, 12, 14, 15, 16], [8, 15], [9002, 16002, 70002]))]), (74, [(4, ([23, 24, 25], [], [23]))]), (76, [(2, ([0, 1, 7, 8], [], []))]), (78, [(3, ([3, 8, 9, 10], [], [7]))]), (80, [(2, ([0, 1, 7, 8], [], []))]), (81, [(4, ([0, 3], [], []))]), (82, [(9, ([3, 4], [], []))]), (83, [(6, ([4, 5, 6], [], [4]))]), (85, [(3, ([3, 4], [], [6]))]), (86, [(17, ([5, 6, 42, 43, 44], [], [42]))]), (87, [(11, ([0, 1, 2, 3, 9, 10], [], []))]), (90, [(2, ([0, 1, 7, 8], [], []))]), (94, [(2, ([6, 7, 8], [], [6]))]), (95, [(5, ([25, 26, 27], [], [25]))]), (96, [(5, ([4, 12, 13, 14], [], [4]))]), (97, [(4, ([0, 1, 5, 6, 7], [], [5]))]), (98, [(7, ([4, 5, 6, 7], [], [4])), (4, ([4, 5, 6], [], [4]))]), (99, [(4, ([0, 3], [], []))]), (100, [(6, ([0, 1, 6, 7], [], []))]), (101, [(6, ([0, 1, 5], [], []))]), (103, [(36, ([1, 8, 9, 10, 11, 12, 13, 99, 100, 101], [], [99]))]), (110, [(1, ([0, 1, 4], [], []))]), (111, [(11, ([0, 1, 3, 4, 10, 11, 12, 13, 14, 15, 16], [12], [10, 38, 40])), (18, ([0, 1, 3, 4, 10, 11, 12, 13, 17], [12], [10, 65]))]), (112, [(1, ([0, 1], [], []))]), (113, [(1, ([0, 1], [], []))]), (114, [(2, ([0, 2, 4], [2], []))]), (115, [(1, ([0, 1], [], []))]), (116, [(1, ([0, 1], [], []))]), (117, [(1, ([0, 1], [], []))]), (118, [(1, ([0, 1], [], []))]), (120, [(4, ([0, 1, 5, 6, 7], [], [5]))]), (121, [(3, ([4, 13, 14, 15], [], [4]))]), (122, [(3, ([0, 4, 5], [], [4]))]), (123, [(2, ([2, 4], [], []))]), (126, [(15, ([0, 1, 5, 6, 7, 8, 9, 10], [], []))]), (128, [(10, ([0, 3, 4, 5], [], []))]), (138, [(10, ([0, 4, 5, 6], [], []))]), (141, [(6, ([0, 4, 5, 6], [], [4]))]), (148, [(11, ([0, 1, 5, 6, 7, 8, 10], [], [])), (5, ([0, 1, 5, 6, 7, 8, 9], [], []))]), (159, [(8, ([4, 6, 7, 8], [], [])), (3, ([0, 4, 5], [], []))])]
def E : Env where
  fld t f := (find1 E.fldL t).bind fun l => l[f]?
  agg t := find1 E.aggL t
  kd t := find1 E.kdL t
  zero t := find1 E.zeroL t
  ik t := find1 E.ikL t
  str t := isIn t E.strL
  eqk t := (find1 E.eqkL t).getD 0
  arr t := find1 E.arrL t
  live F r := ((find1 E.liveL F).bind fun l => find1 l r).getD ([], [], [])
end Go.Ev
/-
  When the evaluator's tables are a program's: a check that can be reckoned, and that it suffices.
-/
namespace Go.Ev

theorem find1_mem {α : Type} : ∀ {l : List (Nat × α)} {t : Nat} {x : α}, find1 l t = some x → (t, x) ∈ l
  | [], _, _, h => by cases h
  | (a, y) :: l, t, x, h => by
    simp only [find1] at h
    cases hb : Nat.beq t a with
    | true => rw [hb] at h; cases h; simp [natbeq hb]
    | false => rw [hb] at h; simp [find1_mem h]

section
variable (P : Program)
def sizeIs (t : TypeId) (n : Nat) : Bool := match P.info? t with | some i => Nat.beq i.size n | none => false
def aggB (t : TypeId) : Option Bool := match P.underlying t with | some (.struct _) | some (.array _ _) => some true | some _ => some false | none => none
def fldChk (x : TypeId × List (Nat × Nat)) : Bool :=
  match P.underlying x.1 with
  | some (.struct fs) => match fs.toList.mapM (fun f => (P.info? f.type).map fun i => (f.offset, i.size)) with
    | some pl => decide (pl = x.2) && x.2.all (fun p => !Nat.beq p.2 0)
    | none => false
  | _ => false
def aggChk (x : TypeId × Option Nat) : Bool :=
  match x.2 with
  | some n => sizeIs P x.1 n && (match aggB P x.1 with | some b => b | none => false)
  | none => sizeIs P x.1 1 && (match aggB P x.1 with | some b => !b | none => false)
def kdChk (x : TypeId × K) : Bool :=
  match P.underlying x.1 with
  | some (.slice e) => match P.info? e with
    | some i => Nat.beq i.size x.2.size && Nat.ble i.bytes 256 && (match i.zero with | some z => Nat.beq z.cells.size x.2.size | none => false) &&
        (match x.2 with | .byte => (match P.underlying e with | some (.int .u8) => true | _ => false) | _ => true)
    | none => false
  | _ => false
def zrelB : Value → Z → Bool
  | .int k n, .int k' => decide (k = k') && decide (n = 0)
  | .bool false, .bool => true
  | .string s, .str => s.data.toList.isEmpty
  | .slice none 0 0, .sl _ => true
  | .nilIface, .err => true
  | _, .other => true
  | _, _ => false
def allZ : List Value → List Z → Bool
  | [], [] => true
  | v :: vs, z :: zs => zrelB v z && allZ vs zs
  | _, _ => false
def zeroChk (x : TypeId × List Z) : Bool :=
  match P.info? x.1 with
  | some i => match i.zero with
    | some z => allZ z.cells.toList x.2
    | none => false
  | none => false
def ikChk (x : TypeId × IntKind) : Bool := match P.underlying x.1 with | some (.int k) => decide (k = x.2) | _ => false
def strChk (t : TypeId) : Bool := match P.underlying t with | some .string => true | _ => false
def arrChk (x : TypeId × Nat) : Bool := match P.underlying x.1 with | some (.array n e) => Nat.beq n x.2 && sizeIs P e 1 | _ => false
end

theorem zrelB_ok {v : Value} {z : Z} (h : zrelB v z = true) : zrel v z := by
  unfold zrelB at h
  split at h
  · simp only [Bool.and_eq_true, decide_eq_true_eq] at h
    rw [← h.1, h.2]; rfl
  · rfl
  · rename_i s
    obtain ⟨⟨l⟩⟩ := s
    simp only [List.isEmpty_iff] at h
    subst h; rfl
  · rfl
  · rfl
  · trivial
  · cases h
theorem allZ_ok : ∀ {vs : List Value} {zs : List Z}, allZ vs zs = true → All2 zrel vs zs
  | [], [], _ => trivial
  | _ :: _, _ :: _, h => by
    simp only [allZ, Bool.and_eq_true] at h
    exact ⟨zrelB_ok h.1, allZ_ok h.2⟩
  | [], _ :: _, h => by cases h
  | _ :: _, [], h => by cases h
section
variable {P : Program}
theorem sizeIs_ok {t : TypeId} {n : Nat} (h : sizeIs P t n = true) : ∃ i, P.info? t = some i ∧ i.size = n := by
  unfold sizeIs at h
  split at h
  · rename_i i hi; exact ⟨i, hi, natbeq h⟩
  · cases h
theorem aggB_ok {t : TypeId} {b : Bool} (h : aggB P t = some b) (w : World) : (isAgg t).run P w = .ok b w := by
  unfold aggB at h
  split at h <;> first | (cases h; done) | (rename_i hu; cases h; simp [isAgg, run_underlying hu]) | skip

/-- The tables, checked. -/
theorem envOk_of (h1 : E.fldL.all (fldChk P) = true) (h2 : E.aggL.all (aggChk P) = true) (h3 : E.kdL.all (kdChk P) = true) (h4 : E.zeroL.all (zeroChk P) = true) (h5 : E.ikL.all (ikChk P) = true) (h6 : E.strL.all (strChk P) = true) (h7 : E.arrL.all (arrChk P) = true)
    (q1 : ∀ t, E.eqk t = 1 → P.underlying t = some .bool)
    (q2 : ∀ t (cx : Cx) (S : Prot) (w : World) (xs ys : List Value) (cs ds : List V) (b : Bool), ((E.eqk t = 10 + 2 * cs.length ∧ cs.all isIntV = true) ∨ (E.eqk t = 11 + 2 * cs.length ∧ cs.all isStrV = true)) → All2 (RD cx S w) xs cs → All2 (RD cx S w) ys ds → eqCs cs ds = some b →
      P.eqGuardType P.depth t = false ∧ (Op.equal t (.agg xs.toArray) (.agg ys.toArray)).run P w = .ok b w)
    (q3 : ∀ t, E.eqk t = 3 → ∃ ms, P.underlying t = some (.interface ms)) : EnvOk P E := by
  simp only [List.all_eq_true] at h1 h2 h3 h4 h5 h6 h7
  refine ⟨fun t f p h => ?_, fun t n h => ?_, fun t h => ?_, fun t k h => ?_, fun t zs h => ?_, fun t k h => ?_, fun t h => ?_, q1, q2, q3, fun t n h => ?_⟩
  · obtain ⟨l, hl, hf⟩ := of_bind (x := find1 E.fldL t) h
    have := h1 _ (find1_mem hl)
    unfold fldChk at this
    simp only at this
    split at this
    · rename_i fs hu
      split at this
      · rename_i pl hpl
        simp only [Bool.and_eq_true, decide_eq_true_eq, List.all_eq_true, Bool.not_eq_true'] at this
        obtain ⟨rfl, hnz⟩ := this
        have hlen : pl.length = fs.toList.length := by
          have : ∀ (l : List Field) (pl : List (Nat × Nat)), l.mapM (fun f => (P.info? f.type).map fun i => (f.offset, i.size)) = some pl → pl.length = l.length := by
            intro l
            induction l with
            | nil => intro pl h; simp at h; subst h; rfl
            | cons a l ih =>
              intro pl h
              simp only [List.mapM_cons, Option.bind_eq_bind, Option.pure_def] at h
              obtain ⟨x, _, h⟩ := of_bind h
              obtain ⟨q, hq, h⟩ := of_bind h
              simp only [Option.some.injEq] at h
              subst h
              simp [ih q hq]
          exact this _ _ hpl
        have hflt : f < fs.toList.length := by rw [← hlen]; exact (List.getElem?_eq_some_iff.1 hf).1
        have hel : ∀ (l : List Field) (pl : List (Nat × Nat)), l.mapM (fun f => (P.info? f.type).map fun i => (f.offset, i.size)) = some pl → ∀ (f : Nat) (p : Nat × Nat), pl[f]? = some p → ∃ F i, l[f]? = some F ∧ P.info? F.type = some i ∧ p = (F.offset, i.size) := by
          intro l
          induction l with
          | nil => intro pl h f p hp; simp at h; subst h; simp at hp
          | cons a l ih =>
            intro pl h f p hp
            simp only [List.mapM_cons, Option.bind_eq_bind, Option.pure_def] at h
            obtain ⟨x, hx, h⟩ := of_bind h
            obtain ⟨q, hq, h⟩ := of_bind h
            simp only [Option.some.injEq] at h
            subst h
            cases f with
            | zero =>
              simp only [List.getElem?_cons_zero, Option.some.injEq] at hp
              subst hp
              cases hi : P.info? a.type with
              | none => rw [hi] at hx; cases hx
              | some i => rw [hi] at hx; simp only [Option.map_some, Option.some.injEq] at hx; exact ⟨a, i, rfl, hi, hx.symm⟩
            | succ f => simpa using ih q hq f p (by simpa using hp)
        obtain ⟨F, i, hF, hi, rfl⟩ := hel _ _ hpl f p hf
        refine ⟨fs, F, i, pl.toArray, hu, by simpa using hF, rfl, hi, rfl, ?_, fun w => ?_, by simpa using hf⟩
        · have := hnz _ (List.mem_of_getElem? hf)
          exact natbeq_false this
        · have hr := run_places (P := P) w _ _ hpl
          rw [Array.mapM_eq_mapM_toList]
          have hfun : (fun f : Field => (do pure (f.offset, ← sizeOf f.type) : Sem (Nat × Nat))) = fun f => Prod.mk f.offset <$> sizeOf f.type := by
            funext f; rw [← bind_pure_comp]
          rw [hfun]
          simp [hr]
      · cases this
    · cases this
  · have := h2 _ (find1_mem h)
    simp only [aggChk, Bool.and_eq_true] at this
    obtain ⟨i, hi, hn⟩ := sizeIs_ok this.1
    refine ⟨i, hi, hn, fun w => aggB_ok ?_ w⟩
    cases hb : aggB P t with
    | none => rw [hb] at this; cases this.2
    | some b => rw [hb] at this; exact congrArg some this.2
  · have := h2 _ (find1_mem h)
    simp only [aggChk, Bool.and_eq_true] at this
    obtain ⟨i, hi, hn⟩ := sizeIs_ok this.1
    refine ⟨i, hi, hn, fun w => aggB_ok ?_ w⟩
    cases hb : aggB P t with
    | none => rw [hb] at this; cases this.2
    | some b =>
      rw [hb] at this
      cases b
      · rfl
      · cases this.2
  · have := h3 _ (find1_mem h)
    simp only [kdChk] at this
    split at this
    · rename_i e hu
      split at this
      · rename_i i hi
        simp only [Bool.and_eq_true] at this
        obtain ⟨⟨⟨a1, a2⟩, a3⟩, a4⟩ := this
        split at a3
        · rename_i z hz
          refine ⟨e, i, z, hu, hi, natbeq a1, Nat.le_of_ble_eq_true a2, hz, natbeq a3, fun hk => ?_⟩
          subst hk
          simp only at a4
          split at a4
          · assumption
          · cases a4
        · cases a3
      · cases this
    · cases this
  · have := h4 _ (find1_mem h)
    simp only [zeroChk] at this
    split at this
    · rename_i i hi
      split at this
      · rename_i z hz
        exact ⟨i, z, hi, hz, allZ_ok this⟩
      · cases this
    · cases this
  · have := h5 _ (find1_mem h)
    simp only [ikChk] at this
    split at this
    · rename_i k' hu
      simp only [decide_eq_true_eq] at this
      subst this; exact hu
    · cases this
  · have := h6 _ (isIn_mem.1 h)
    simp only [strChk] at this
    split at this
    · assumption
    · cases this
  · have := h7 _ (find1_mem h)
    simp only [arrChk] at this
    split at this
    · rename_i m e hu
      simp only [Bool.and_eq_true] at this
      obtain ⟨i, hi, hn⟩ := sizeIs_ok this.2
      have hm := natbeq this.1
      subst hm
      exact ⟨e, i, hu, hi, hn⟩
    · cases this
end
end Go.Ev
/-
  The evaluator's tables are this program's.
-/
namespace Go.Ev
open Go.Proofs
theorem fldOk : E.fldL.all (fldChk Tryz.prog) = true := by kernel_rfl
theorem aggOk : E.aggL.all (aggChk Tryz.prog) = true := by kernel_rfl
theorem kdOk : E.kdL.all (kdChk Tryz.prog) = true := by kernel_rfl
theorem zeroOk : E.zeroL.all (zeroChk Tryz.prog) = true := by kernel_rfl
theorem ikOk : E.ikL.all (ikChk Tryz.prog) = true := by kernel_rfl
theorem strOk : E.strL.all (strChk Tryz.prog) = true := by kernel_rfl
theorem arrOk : E.arrL.all (arrChk Tryz.prog) = true := by kernel_rfl

def eqkChk (P : Program) (x : TypeId × Nat) : Bool :=
  match x.2 with
  | 1 => (match P.underlying x.1 with | some .bool => true | _ => false)
  | 3 => (match P.underlying x.1 with | some (.interface _) => true | _ => false)
  | 16 => Nat.beq x.1 23
  | 15 => Nat.beq x.1 41
  | _ => false
theorem eqkOk : E.eqkL.all (eqkChk Tryz.prog) = true := by kernel_rfl
theorem eqk_mem {t n : Nat} (h : E.eqk t = n + 1) : (t, n + 1) ∈ E.eqkL := by
  have h' : (find1 E.eqkL t).getD 0 = n + 1 := h
  cases hf : find1 E.eqkL t with
  | none => rw [hf] at h'; cases h'
  | some m => rw [hf] at h'; simp only [Option.getD_some] at h'; subst h'; exact find1_mem hf
theorem eqk_chk {t n : Nat} (h : E.eqk t = n + 1) : eqkChk Tryz.prog (t, n + 1) = true := List.all_eq_true.1 eqkOk _ (eqk_mem h)

/-- Structs of scalars, field by field. -/
def flatChk (P : Program) (int : Bool) : List Field → Nat → Bool
  | [], _ => true
  | f :: fs, j => (f.name != "_") && Nat.beq f.offset j && (match P.underlying f.type with | some (.int _) => int | some .string => !int | _ => false) && flatChk P int fs (j + 1)
theorem eqFields_flat {P : Program} {int : Bool} {d : Nat} {cx : Cx} {S : Prot} {w : World} {xs ys : List Value} : ∀ (fs : List Field) (j : Nat) (cs ds : List V) (b : Bool), All2 (RD cx S w) (xs.drop j) cs → All2 (RD cx S w) (ys.drop j) ds → cs.length = fs.length →
    (if int then cs.all isIntV = true else cs.all isStrV = true) → eqCs cs ds = some b → flatChk P int fs j = true → (Op.eqFields (d + 1) xs.toArray ys.toArray fs).run P w = .ok b w
  | [], j, cs, ds, b, h1, h2, hl, _, hb, _ => by
    have hc : cs = [] := List.length_eq_zero_iff.1 hl
    subst hc
    cases ds with
    | nil => simp only [eqCs, Option.some.injEq] at hb; subst hb; simp [Op.eqFields]
    | cons _ _ => cases hb
  | f :: fs, j, [], ds, b, h1, h2, hl, _, hb, _ => by simp at hl
  | f :: fs, j, c :: cs, [], b, h1, h2, hl, _, hb, _ => by cases hb
  | f :: fs, j, c :: cs, e :: ds, b, h1, h2, hl, hk, hb, hf => by
    simp only [eqCs] at hb
    obtain ⟨b1, hb1, hb⟩ := of_bind hb
    obtain ⟨b2, hb2, hb⟩ := of_bind hb
    simp only [Option.some.injEq] at hb
    subst hb
    simp only [flatChk, Bool.and_eq_true, bne_iff_ne, ne_eq] at hf
    obtain ⟨⟨⟨f1, f2⟩, f3⟩, f4⟩ := hf
    have f2 := natbeq f2
    have hx : ∃ v, xs[j]? = some v ∧ RD cx S w v c ∧ All2 (RD cx S w) (xs.drop (j + 1)) cs := by
      cases hd : xs.drop j with
      | nil => rw [hd] at h1; exact h1.elim
      | cons v r =>
        rw [hd] at h1
        have e1 : xs[j]? = some v := by have := congrArg (·[0]?) hd; simpa [List.getElem?_drop] using this
        have e2 : xs.drop (j + 1) = r := by rw [← List.drop_drop, hd]; rfl
        exact ⟨v, e1, h1.1, e2 ▸ h1.2⟩
    have hy : ∃ v, ys[j]? = some v ∧ RD cx S w v e ∧ All2 (RD cx S w) (ys.drop (j + 1)) ds := by
      cases hd : ys.drop j with
      | nil => rw [hd] at h2; exact h2.elim
      | cons v r =>
        rw [hd] at h2
        have e1 : ys[j]? = some v := by have := congrArg (·[0]?) hd; simpa [List.getElem?_drop] using this
        have e2 : ys.drop (j + 1) = r := by rw [← List.drop_drop, hd]; rfl
        exact ⟨v, e1, h2.1, e2 ▸ h2.2⟩
    obtain ⟨v, v1, v2, v3⟩ := hx
    obtain ⟨u, u1, u2, u3⟩ := hy
    have ih := eqFields_flat (d := d) fs (j + 1) cs ds b2 v3 u3 (by simpa using hl) (by cases int <;> simp only [List.all_cons, Bool.and_eq_true, if_true, if_false, Bool.false_eq_true] at hk ⊢ <;> exact hk.2) hb2 f4
    have hagg : (isAgg f.type).run P w = .ok false w := by
      split at f3 <;> first | (cases f3; done) | (rename_i hu; simp [isAgg, run_underlying hu])
    have p1 : (part f.type xs.toArray f.offset).run P w = .ok v w := by simp [part, hagg, f2, v1]
    have p2 : (part f.type ys.toArray f.offset).run P w = .ok u w := by simp [part, hagg, f2, u1]
    have heq : (Op.equalIn (d + 1) f.type v u).run P w = .ok b1 w := by
      cases int with
      | true =>
        simp only [List.all_cons, Bool.and_eq_true, if_true] at hk
        cases c <;> first | (cases hk.1; done) | skip
        cases e <;> first | (cases hb1; done) | skip
        have r1 := RD_iff.1 v2
        have r2 := RD_iff.1 u2
        simp only [RdF] at r1 r2
        subst r1 r2
        simp only [eqC] at hb1
        split at hb1
        · rename_i hkk
          subst hkk
          simp only [Option.some.injEq] at hb1
          subst hb1
          split at f3 <;> first | (cases f3; done) | skip
          rename_i hu
          exact run_equalIn_int w d f.type _ _ _ _ hu
        · cases hb1
      | false =>
        simp only [List.all_cons, Bool.and_eq_true, Bool.false_eq_true, if_false] at hk
        cases c <;> first | (cases hk.1; done) | skip
        cases e <;> first | (cases hb1; done) | skip
        have r1 := RD_iff.1 v2
        have r2 := RD_iff.1 u2
        simp only [RdF] at r1 r2
        subst r1 r2
        simp only [eqC, Option.some.injEq] at hb1
        subst hb1
        split at f3 <;> first | (cases f3; done) | skip
        rename_i hu
        refine (run_equalIn_string (P := P) w d f.type _ _ hu).trans ?_
        simp [ByteArray.toList_eq]
    simp only [Op.eqFields]
    rw [if_pos f1]
    simp only [Sem.run_bind, p1, p2, heq, Result.andThen_ok, Sem.run_ite]
    cases b1
    · simp
    · simpa using ih

theorem flat_eq {P : Program} {int : Bool} {t : TypeId} {fs : Array Field} (ht : P.underlying t = some (.struct fs)) (hh : P.stoodInHeld t = false) (hg : P.eqGuardType P.depth t = false) (hf : flatChk P int fs.toList 0 = true)
    {cx : Cx} {S : Prot} {w : World} {xs ys : List Value} {cs ds : List V} {b : Bool} (h1 : All2 (RD cx S w) xs cs) (h2 : All2 (RD cx S w) ys ds) (hl : cs.length = fs.toList.length) (hk : if int then cs.all isIntV = true else cs.all isStrV = true) (hb : eqCs cs ds = some b) :
    P.eqGuardType P.depth t = false ∧ (Op.equal t (.agg xs.toArray) (.agg ys.toArray)).run P w = .ok b w := by
  refine ⟨hg, ?_⟩
  have hfo : P.fieldsOf t = fs := by simp [Program.fieldsOf, ht]
  have key : ∀ d, (Op.equalIn (d + 1 + 1) t (.agg xs.toArray) (.agg ys.toArray)).run P w = .ok b w := fun d => by
    have := run_equalIn_struct (P := P) w (d + 1) t xs.toArray ys.toArray (by rw [hfo]; exact ht) hh
    rw [hfo] at this
    exact this.trans (eqFields_flat (int := int) fs.toList 0 cs ds b (by simpa using h1) (by simpa using h2) hl hk hb hf)
  have key2 : ∀ n d, n = d + 1 + 1 → (Op.equalIn n t (.agg xs.toArray) (.agg ys.toArray)).run P w = .ok b w := fun n d e => by subst e; exact key d
  unfold Op.equal
  exact key2 _ 9998 (by simp [Op.maxDepth])

def fieldsAt (P : Program) (t : TypeId) : Array Field := match P.underlying t with | some (.struct fs) => fs | _ => #[]
def isStruct (P : Program) (t : TypeId) : Bool := match P.underlying t with | some (.struct _) => true | _ => false
theorem struct_at {P : Program} {t : TypeId} (h : isStruct P t = true) : P.underlying t = some (.struct (fieldsAt P t)) := by
  unfold isStruct at h
  unfold fieldsAt
  split at h
  · rename_i fs hu; rw [hu]
  · cases h
theorem t23 : Tryz.prog.underlying 23 = some (.struct (fieldsAt Tryz.prog 23)) := struct_at (by kernel_rfl)
theorem t41 : Tryz.prog.underlying 41 = some (.struct (fieldsAt Tryz.prog 41)) := struct_at (by kernel_rfl)
theorem n23 : (fieldsAt Tryz.prog 23).toList.length = 3 := by kernel_rfl
theorem n41 : (fieldsAt Tryz.prog 41).toList.length = 2 := by kernel_rfl
theorem envOk : EnvOk Tryz.prog E := by
  refine envOk_of fldOk aggOk kdOk zeroOk ikOk strOk arrOk (fun t h => ?_) (fun t cx S w xs ys cs ds b h h1 h2 hb => ?_) (fun t h => ?_)
  · have := eqk_chk h
    simp only [eqkChk] at this
    split at this
    · rename_i hu; exact hu
    · cases this
  · rcases h with ⟨h, hk⟩ | ⟨h, hk⟩
    · have hc := eqk_chk (t := t) (n := 9 + 2 * cs.length) (by rw [h]; omega)
      simp only [eqkChk] at hc
      split at hc
      · omega
      · omega
      · obtain rfl := natbeq hc
        exact flat_eq (int := true) t23 (by kernel_rfl) (by kernel_rfl) (by kernel_rfl) h1 h2 (by rw [n23]; omega) hk hb
      · omega
      · cases hc
    · have hc := eqk_chk (t := t) (n := 10 + 2 * cs.length) (by rw [h]; omega)
      simp only [eqkChk] at hc
      split at hc
      · omega
      · omega
      · omega
      · obtain rfl := natbeq hc
        exact flat_eq (int := false) t41 (by kernel_rfl) (by kernel_rfl) (by kernel_rfl) h1 h2 (by rw [n41]; omega) hk hb
      · cases hc
  · have := eqk_chk h
    simp only [eqkChk] at this
    split at this
    · rename_i ms hms; exact ⟨ms, hms⟩
    · cases this
end Go.Ev
