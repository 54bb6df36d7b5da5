/-
  Runs by themselves: what goes in and what comes out. Printed by gen_memo.py out of runs of the abstract machine; nothing here is proved.
-/
import Derived.Test.YtehhkecoedbjoaaGreatDoorA
set_option linter.unusedVariables false
set_option linter.unusedSimpArgs false
set_option linter.unusedSectionVars false
namespace Go.Ev
open Go
noncomputable def glob0 : CB := .cells (bs [240, 240, 240, 240, 240, 240, 240, 240, 240, 240, 240, 240, 240, 240, 240, 240, 240, 240, 240, 240, 240, 240, 240, 240, 240, 240, 240, 240, 240, 240, 240, 240, 240, 240, 240, 240, 240, 240, 240, 240, 240, 240, 240, 240, 240, 240, 240, 240, 240, 240, 240, 240, 240, 240, 240, 240, 240, 240, 240, 240, 240, 240, 240, 240, 240, 240, 240, 240, 240, 240, 240, 240, 240, 240, 240, 240, 240, 240, 240, 240, 240, 240, 240, 240, 240, 240, 240, 240, 240, 240, 240, 240, 240, 240, 240, 240, 240, 240, 240, 240, 240, 240, 240, 240, 240, 240, 240, 240, 240, 240, 240, 240, 240, 240, 240, 240, 240, 240, 240, 240, 240, 240, 240, 240, 240, 240, 240, 240, 241, 241, 241, 241, 241, 241, 241, 241, 241, 241, 241, 241, 241, 241, 241, 241, 241, 241, 241, 241, 241, 241, 241, 241, 241, 241, 241, 241, 241, 241, 241, 241, 241, 241, 241, 241, 241, 241, 241, 241, 241, 241, 241, 241, 241, 241, 241, 241, 241, 241, 241, 241, 241, 241, 241, 241, 241, 241, 241, 241, 241, 241, 241, 241, 241, 241, 2, 2, 2, 2, 2, 2, 2, 2, 2, 2, 2, 2, 2, 2, 2, 2, 2, 2, 2, 2, 2, 2, 2, 2, 2, 2, 2, 2, 2, 2, 19, 3, 3, 3, 3, 3, 3, 3, 3, 3, 3, 3, 3, 35, 3, 3, 52, 4, 4, 4, 68, 241, 241, 241, 241, 241, 241, 241, 241, 241, 241, 241]) 184 0 0 true
noncomputable def glob1 : CB := .cells (bs [128, 191, 160, 191, 128, 159, 144, 191, 128, 143, 0, 0, 0, 0, 0, 0, 0, 0, 0, 0, 0, 0, 0, 0, 0, 0, 0, 0, 0, 0, 0, 0]) 187 0 0 true
noncomputable def glob6 : CB := .cells [(.int .u32 (.ofNat 0)), (.int .u32 (.ofNat 498536548)), (.int .u32 (.ofNat 997073096)), (.int .u32 (.ofNat 651767980)), (.int .u32 (.ofNat 1994146192)), (.int .u32 (.ofNat 1802195444)), (.int .u32 (.ofNat 1303535960)), (.int .u32 (.ofNat 1342533948)), (.int .u32 (.ofNat 3988292384)), (.int .u32 (.ofNat 4027552580)), (.int .u32 (.ofNat 3604390888)), (.int .u32 (.ofNat 3412177804)), (.int .u32 (.ofNat 2607071920)), (.int .u32 (.ofNat 2262029012)), (.int .u32 (.ofNat 2685067896)), (.int .u32 (.ofNat 3183342108))] 421 0 0 true
noncomputable def m0 : Memo := {
  gs := [(6, glob6)]
  args := [(.slice (some ⟨10, 0, none⟩) 266 266)]
  ins := [.cells (bs [72, 78, 75, 49, 11, 3, 112, 111, 115, 12, 6, 109, 97, 116, 114, 105, 120, 3, 8, 114, 101, 97, 100, 105, 110, 103, 115, 60, 5, 102, 105, 114, 115, 116, 6, 8, 115, 117, 114, 102, 97, 99, 101, 115, 63, 7, 115, 117, 114, 102, 97, 99, 101, 6, 4, 108, 101, 102, 116, 6, 5, 114, 105, 103, 104, 116, 6, 4, 99, 111, 115, 116, 8, 5, 111, 114, 100, 101, 114, 6, 2, 97, 116, 6, 2, 3, 66, 79, 83, 0, 4, 110, 111, 117, 110, 0, 2, 10, 0, 16, 0, 0, 0, 15, 0, 0, 0, 85, 21, 0, 0, 0, 0, 0, 0, 0, 0, 0, 0, 6, 0, 0, 0, 227, 129, 139, 227, 129, 141, 16, 0, 0, 0, 7, 0, 0, 0, 72, 0, 0, 0, 0, 0, 0, 0, 0, 0, 0, 0, 6, 0, 0, 0, 2, 0, 0, 0, 1, 2, 2, 0, 0, 0, 2, 8, 16, 0, 0, 0, 21, 0, 0, 0, 93, 85, 1, 0, 0, 0, 0, 0, 0, 0, 0, 0, 9, 0, 0, 0, 230, 231, 232, 159, 167, 154, 191, 145, 138, 16, 0, 0, 0, 10, 0, 0, 0, 128, 3, 0, 0, 0, 0, 0, 0, 0, 0, 0, 0, 6, 0, 0, 0, 3, 0, 0, 0, 2, 36, 3, 0, 0, 0, 2, 9, 3, 0, 0, 0, 1, 7, 3, 0, 0, 0, 1, 7, 3, 0, 0, 0, 6, 148, 135, 2, 3, 0, 0, 0, 2, 18, 3, 0, 0, 0, 2, 36]) 5 0 0 false]
  res := (.int .u32 (.ofNat 1932450347))
  outs := [] }
noncomputable def m1 : Memo := {
  gs := [(6, glob6)]
  args := [(.slice (some ⟨10, 0, none⟩) 11 11)]
  ins := [.cells [(.string ⟨⟨[112, 111, 115]⟩⟩), (.slice (some ⟨11, 0, none⟩) 12 12), (.string ⟨⟨[109, 97, 116, 114, 105, 120]⟩⟩), (.slice (some ⟨12, 0, none⟩) 3 3), (.string ⟨⟨[114, 101, 97, 100, 105, 110, 103, 115]⟩⟩), (.slice (some ⟨13, 0, none⟩) 60 60), (.string ⟨⟨[102, 105, 114, 115, 116]⟩⟩), (.slice (some ⟨14, 0, none⟩) 6 6), (.string ⟨⟨[115, 117, 114, 102, 97, 99, 101, 115]⟩⟩), (.slice (some ⟨15, 0, none⟩) 63 63), (.string ⟨⟨[115, 117, 114, 102, 97, 99, 101]⟩⟩), (.slice (some ⟨16, 0, none⟩) 6 6), (.string ⟨⟨[108, 101, 102, 116]⟩⟩), (.slice (some ⟨17, 0, none⟩) 6 6), (.string ⟨⟨[114, 105, 103, 104, 116]⟩⟩), (.slice (some ⟨18, 0, none⟩) 6 6), (.string ⟨⟨[99, 111, 115, 116]⟩⟩), (.slice (some ⟨19, 0, none⟩) 8 8), (.string ⟨⟨[111, 114, 100, 101, 114]⟩⟩), (.slice (some ⟨20, 0, none⟩) 6 6), (.string ⟨⟨[97, 116]⟩⟩), (.slice (some ⟨21, 0, none⟩) 6 6)] 213 0 0 true,
     .cells (bs [2, 3, 66, 79, 83, 0, 4, 110, 111, 117, 110, 0]) 5 0 0 false,
     .cells (bs [2, 10, 0]) 5 0 0 false,
     .cells (bs [16, 0, 0, 0, 15, 0, 0, 0, 85, 21, 0, 0, 0, 0, 0, 0, 0, 0, 0, 0, 6, 0, 0, 0, 227, 129, 139, 227, 129, 141, 16, 0, 0, 0, 7, 0, 0, 0, 72, 0, 0, 0, 0, 0, 0, 0, 0, 0, 0, 0, 6, 0, 0, 0, 2, 0, 0, 0, 1, 2]) 5 0 0 false,
     .cells (bs [2, 0, 0, 0, 2, 8]) 5 0 0 false,
     .cells (bs [16, 0, 0, 0, 21, 0, 0, 0, 93, 85, 1, 0, 0, 0, 0, 0, 0, 0, 0, 0, 9, 0, 0, 0, 230, 231, 232, 159, 167, 154, 191, 145, 138, 16, 0, 0, 0, 10, 0, 0, 0, 128, 3, 0, 0, 0, 0, 0, 0, 0, 0, 0, 0, 6, 0, 0, 0, 3, 0, 0, 0, 2, 36]) 5 0 0 false,
     .cells (bs [3, 0, 0, 0, 2, 9]) 5 0 0 false,
     .cells (bs [3, 0, 0, 0, 1, 7]) 5 0 0 false,
     .cells (bs [3, 0, 0, 0, 1, 7]) 5 0 0 false,
     .cells (bs [3, 0, 0, 0, 6, 148, 135, 2]) 5 0 0 false,
     .cells (bs [3, 0, 0, 0, 2, 18]) 5 0 0 false,
     .cells (bs [3, 0, 0, 0, 2, 36]) 5 0 0 false]
  res := (.tuple ⟨[(.slice (some ⟨22, 0, none⟩) 270 270), (.int .i64 (.ofNat 0))]⟩)
  outs := [.cells (bs [72, 78, 75, 49, 11, 3, 112, 111, 115, 12, 6, 109, 97, 116, 114, 105, 120, 3, 8, 114, 101, 97, 100, 105, 110, 103, 115, 60, 5, 102, 105, 114, 115, 116, 6, 8, 115, 117, 114, 102, 97, 99, 101, 115, 63, 7, 115, 117, 114, 102, 97, 99, 101, 6, 4, 108, 101, 102, 116, 6, 5, 114, 105, 103, 104, 116, 6, 4, 99, 111, 115, 116, 8, 5, 111, 114, 100, 101, 114, 6, 2, 97, 116, 6, 2, 3, 66, 79, 83, 0, 4, 110, 111, 117, 110, 0, 2, 10, 0, 16, 0, 0, 0, 15, 0, 0, 0, 85, 21, 0, 0, 0, 0, 0, 0, 0, 0, 0, 0, 6, 0, 0, 0, 227, 129, 139, 227, 129, 141, 16, 0, 0, 0, 7, 0, 0, 0, 72, 0, 0, 0, 0, 0, 0, 0, 0, 0, 0, 0, 6, 0, 0, 0, 2, 0, 0, 0, 1, 2, 2, 0, 0, 0, 2, 8, 16, 0, 0, 0, 21, 0, 0, 0, 93, 85, 1, 0, 0, 0, 0, 0, 0, 0, 0, 0, 9, 0, 0, 0, 230, 231, 232, 159, 167, 154, 191, 145, 138, 16, 0, 0, 0, 10, 0, 0, 0, 128, 3, 0, 0, 0, 0, 0, 0, 0, 0, 0, 0, 6, 0, 0, 0, 3, 0, 0, 0, 2, 36, 3, 0, 0, 0, 2, 9, 3, 0, 0, 0, 1, 7, 3, 0, 0, 0, 1, 7, 3, 0, 0, 0, 6, 148, 135, 2, 3, 0, 0, 0, 2, 18, 3, 0, 0, 0, 2, 36, 43, 218, 46, 115]) 5 0 0 false] }
noncomputable def m2 : Memo := {
  gs := [(0, glob0), (1, glob1), (6, glob6)]
  args := [(.slice (some ⟨10, 0, none⟩) 2 2), (.pointer (some ⟨11, 0, none⟩)), (.slice (some ⟨12, 0, none⟩) 3 3)]
  ins := [.cells [(.string ⟨⟨[66, 79, 83]⟩⟩), (.int .i64 (.ofNat 0)), (.string ⟨⟨[110, 111, 117, 110]⟩⟩), (.int .i64 (.ofNat 0))] 79 0 0 true,
     .cells [(.int .i64 (.ofNat 2)), (.int .i64 (.ofNat 10)), (.map (some 13))] 310 0 0 true,
     .cells [(.string ⟨⟨[227, 129, 139]⟩⟩), (.string ⟨⟨[232, 154, 138]⟩⟩), (.int .i64 (.ofNat 1)), (.int .i64 (.ofNat 1)), (.int .i64 (.ofNat 30)), (.string ⟨⟨[227, 129, 139]⟩⟩), (.string ⟨⟨[231, 167, 145]⟩⟩), (.int .i64 (.ofNat 1)), (.int .i64 (.ofNat 1)), (.int .i64 (.ofNat 20)), (.string ⟨⟨[227, 129, 139, 227, 129, 141]⟩⟩), (.string ⟨⟨[230, 159, 191]⟩⟩), (.int .i64 (.ofNat 1)), (.int .i64 (.ofNat 1)), (.int .i64 (.ofNat 40))] 81 0 0 true,
     .map [] 0]
  res := (.tuple ⟨[(.slice (some ⟨14, 0, none⟩) 270 270), (.int .i64 (.ofNat 0))]⟩)
  outs := [.cells (bs [72, 78, 75, 49, 11, 3, 112, 111, 115, 12, 6, 109, 97, 116, 114, 105, 120, 3, 8, 114, 101, 97, 100, 105, 110, 103, 115, 60, 5, 102, 105, 114, 115, 116, 6, 8, 115, 117, 114, 102, 97, 99, 101, 115, 63, 7, 115, 117, 114, 102, 97, 99, 101, 6, 4, 108, 101, 102, 116, 6, 5, 114, 105, 103, 104, 116, 6, 4, 99, 111, 115, 116, 8, 5, 111, 114, 100, 101, 114, 6, 2, 97, 116, 6, 2, 3, 66, 79, 83, 0, 4, 110, 111, 117, 110, 0, 2, 10, 0, 16, 0, 0, 0, 15, 0, 0, 0, 85, 21, 0, 0, 0, 0, 0, 0, 0, 0, 0, 0, 6, 0, 0, 0, 227, 129, 139, 227, 129, 141, 16, 0, 0, 0, 7, 0, 0, 0, 72, 0, 0, 0, 0, 0, 0, 0, 0, 0, 0, 0, 6, 0, 0, 0, 2, 0, 0, 0, 1, 2, 2, 0, 0, 0, 2, 8, 16, 0, 0, 0, 21, 0, 0, 0, 93, 85, 1, 0, 0, 0, 0, 0, 0, 0, 0, 0, 9, 0, 0, 0, 230, 231, 232, 159, 167, 154, 191, 145, 138, 16, 0, 0, 0, 10, 0, 0, 0, 128, 3, 0, 0, 0, 0, 0, 0, 0, 0, 0, 0, 6, 0, 0, 0, 3, 0, 0, 0, 2, 36, 3, 0, 0, 0, 2, 9, 3, 0, 0, 0, 1, 7, 3, 0, 0, 0, 1, 7, 3, 0, 0, 0, 6, 148, 135, 2, 3, 0, 0, 0, 2, 18, 3, 0, 0, 0, 2, 36, 43, 218, 46, 115]) 5 0 0 false] }
noncomputable def m3 : Memo := {
  gs := [(0, glob0), (1, glob1), (6, glob6)]
  args := [(.agg ⟨[(.slice (some ⟨10, 0, none⟩) 2 2), (.int .i64 (.ofNat 10)), (.slice none 0 0), (.slice (some ⟨11, 0, none⟩) 3 3)]⟩)]
  ins := [.cells [(.string ⟨⟨[66, 79, 83]⟩⟩), (.int .i64 (.ofNat 0)), (.string ⟨⟨[110, 111, 117, 110]⟩⟩), (.int .i64 (.ofNat 0))] 79 0 0 true,
     .cells [(.string ⟨⟨[227, 129, 139]⟩⟩), (.string ⟨⟨[232, 154, 138]⟩⟩), (.int .i64 (.ofNat 1)), (.int .i64 (.ofNat 1)), (.int .i64 (.ofNat 30)), (.string ⟨⟨[227, 129, 139]⟩⟩), (.string ⟨⟨[231, 167, 145]⟩⟩), (.int .i64 (.ofNat 1)), (.int .i64 (.ofNat 1)), (.int .i64 (.ofNat 20)), (.string ⟨⟨[227, 129, 139, 227, 129, 141]⟩⟩), (.string ⟨⟨[230, 159, 191]⟩⟩), (.int .i64 (.ofNat 1)), (.int .i64 (.ofNat 1)), (.int .i64 (.ofNat 40))] 81 0 0 true]
  res := (.tuple ⟨[(.slice (some ⟨12, 0, none⟩) 270 270), (.int .i64 (.ofNat 0))]⟩)
  outs := [.cells (bs [72, 78, 75, 49, 11, 3, 112, 111, 115, 12, 6, 109, 97, 116, 114, 105, 120, 3, 8, 114, 101, 97, 100, 105, 110, 103, 115, 60, 5, 102, 105, 114, 115, 116, 6, 8, 115, 117, 114, 102, 97, 99, 101, 115, 63, 7, 115, 117, 114, 102, 97, 99, 101, 6, 4, 108, 101, 102, 116, 6, 5, 114, 105, 103, 104, 116, 6, 4, 99, 111, 115, 116, 8, 5, 111, 114, 100, 101, 114, 6, 2, 97, 116, 6, 2, 3, 66, 79, 83, 0, 4, 110, 111, 117, 110, 0, 2, 10, 0, 16, 0, 0, 0, 15, 0, 0, 0, 85, 21, 0, 0, 0, 0, 0, 0, 0, 0, 0, 0, 6, 0, 0, 0, 227, 129, 139, 227, 129, 141, 16, 0, 0, 0, 7, 0, 0, 0, 72, 0, 0, 0, 0, 0, 0, 0, 0, 0, 0, 0, 6, 0, 0, 0, 2, 0, 0, 0, 1, 2, 2, 0, 0, 0, 2, 8, 16, 0, 0, 0, 21, 0, 0, 0, 93, 85, 1, 0, 0, 0, 0, 0, 0, 0, 0, 0, 9, 0, 0, 0, 230, 231, 232, 159, 167, 154, 191, 145, 138, 16, 0, 0, 0, 10, 0, 0, 0, 128, 3, 0, 0, 0, 0, 0, 0, 0, 0, 0, 0, 6, 0, 0, 0, 3, 0, 0, 0, 2, 36, 3, 0, 0, 0, 2, 9, 3, 0, 0, 0, 1, 7, 3, 0, 0, 0, 1, 7, 3, 0, 0, 0, 6, 148, 135, 2, 3, 0, 0, 0, 2, 18, 3, 0, 0, 0, 2, 36, 43, 218, 46, 115]) 5 0 0 false] }
noncomputable def m4 : Memo := {
  gs := [(6, glob6)]
  args := [(.slice (some ⟨10, 0, none⟩) 266 270)]
  ins := [.cells (bs [72, 78, 75, 49, 11, 3, 112, 111, 115, 12, 6, 109, 97, 116, 114, 105, 120, 3, 8, 114, 101, 97, 100, 105, 110, 103, 115, 60, 5, 102, 105, 114, 115, 116, 6, 8, 115, 117, 114, 102, 97, 99, 101, 115, 63, 7, 115, 117, 114, 102, 97, 99, 101, 6, 4, 108, 101, 102, 116, 6, 5, 114, 105, 103, 104, 116, 6, 4, 99, 111, 115, 116, 8, 5, 111, 114, 100, 101, 114, 6, 2, 97, 116, 6, 2, 3, 66, 79, 83, 0, 4, 110, 111, 117, 110, 0, 2, 10, 0, 16, 0, 0, 0, 15, 0, 0, 0, 85, 21, 0, 0, 0, 0, 0, 0, 0, 0, 0, 0, 6, 0, 0, 0, 227, 129, 139, 227, 129, 141, 16, 0, 0, 0, 7, 0, 0, 0, 72, 0, 0, 0, 0, 0, 0, 0, 0, 0, 0, 0, 6, 0, 0, 0, 2, 0, 0, 0, 1, 2, 2, 0, 0, 0, 2, 8, 16, 0, 0, 0, 21, 0, 0, 0, 93, 85, 1, 0, 0, 0, 0, 0, 0, 0, 0, 0, 9, 0, 0, 0, 230, 231, 232, 159, 167, 154, 191, 145, 138, 16, 0, 0, 0, 10, 0, 0, 0, 128, 3, 0, 0, 0, 0, 0, 0, 0, 0, 0, 0, 6, 0, 0, 0, 3, 0, 0, 0, 2, 36, 3, 0, 0, 0, 2, 9, 3, 0, 0, 0, 1, 7, 3, 0, 0, 0, 1, 7, 3, 0, 0, 0, 6, 148, 135, 2, 3, 0, 0, 0, 2, 18, 3, 0, 0, 0, 2, 36, 43, 218, 46, 115]) 5 0 0 false]
  res := (.int .u32 (.ofNat 1932450347))
  outs := [] }
noncomputable def m5 : Memo := {
  gs := [(6, glob6)]
  args := [(.slice (some ⟨10, 0, none⟩) 270 270)]
  ins := [.cells (bs [72, 78, 75, 49, 11, 3, 112, 111, 115, 12, 6, 109, 97, 116, 114, 105, 120, 3, 8, 114, 101, 97, 100, 105, 110, 103, 115, 60, 5, 102, 105, 114, 115, 116, 6, 8, 115, 117, 114, 102, 97, 99, 101, 115, 63, 7, 115, 117, 114, 102, 97, 99, 101, 6, 4, 108, 101, 102, 116, 6, 5, 114, 105, 103, 104, 116, 6, 4, 99, 111, 115, 116, 8, 5, 111, 114, 100, 101, 114, 6, 2, 97, 116, 6, 2, 3, 66, 79, 83, 0, 4, 110, 111, 117, 110, 0, 2, 10, 0, 16, 0, 0, 0, 15, 0, 0, 0, 85, 21, 0, 0, 0, 0, 0, 0, 0, 0, 0, 0, 6, 0, 0, 0, 227, 129, 139, 227, 129, 141, 16, 0, 0, 0, 7, 0, 0, 0, 72, 0, 0, 0, 0, 0, 0, 0, 0, 0, 0, 0, 6, 0, 0, 0, 2, 0, 0, 0, 1, 2, 2, 0, 0, 0, 2, 8, 16, 0, 0, 0, 21, 0, 0, 0, 93, 85, 1, 0, 0, 0, 0, 0, 0, 0, 0, 0, 9, 0, 0, 0, 230, 231, 232, 159, 167, 154, 191, 145, 138, 16, 0, 0, 0, 10, 0, 0, 0, 128, 3, 0, 0, 0, 0, 0, 0, 0, 0, 0, 0, 6, 0, 0, 0, 3, 0, 0, 0, 2, 36, 3, 0, 0, 0, 2, 9, 3, 0, 0, 0, 1, 7, 3, 0, 0, 0, 1, 7, 3, 0, 0, 0, 6, 148, 135, 2, 3, 0, 0, 0, 2, 18, 3, 0, 0, 0, 2, 36, 43, 218, 46, 115]) 5 0 0 false]
  res := (.tuple ⟨[(.slice (some ⟨11, 0, none⟩) 11 11), (.int .i64 (.ofNat 0))]⟩)
  outs := [.cells [(.string ⟨⟨[112, 111, 115]⟩⟩), (.slice (some ⟨12, 0, none⟩) 12 12), (.string ⟨⟨[109, 97, 116, 114, 105, 120]⟩⟩), (.slice (some ⟨13, 0, none⟩) 3 3), (.string ⟨⟨[114, 101, 97, 100, 105, 110, 103, 115]⟩⟩), (.slice (some ⟨14, 0, none⟩) 60 60), (.string ⟨⟨[102, 105, 114, 115, 116]⟩⟩), (.slice (some ⟨15, 0, none⟩) 6 6), (.string ⟨⟨[115, 117, 114, 102, 97, 99, 101, 115]⟩⟩), (.slice (some ⟨16, 0, none⟩) 63 63), (.string ⟨⟨[115, 117, 114, 102, 97, 99, 101]⟩⟩), (.slice (some ⟨17, 0, none⟩) 6 6), (.string ⟨⟨[108, 101, 102, 116]⟩⟩), (.slice (some ⟨18, 0, none⟩) 6 6), (.string ⟨⟨[114, 105, 103, 104, 116]⟩⟩), (.slice (some ⟨19, 0, none⟩) 6 6), (.string ⟨⟨[99, 111, 115, 116]⟩⟩), (.slice (some ⟨20, 0, none⟩) 8 8), (.string ⟨⟨[111, 114, 100, 101, 114]⟩⟩), (.slice (some ⟨21, 0, none⟩) 6 6), (.string ⟨⟨[97, 116]⟩⟩), (.slice (some ⟨22, 0, none⟩) 6 6)] 213 0 0 true,
     .cells (bs [2, 3, 66, 79, 83, 0, 4, 110, 111, 117, 110, 0]) 5 0 0 false,
     .cells (bs [2, 10, 0]) 5 0 0 false,
     .cells (bs [16, 0, 0, 0, 15, 0, 0, 0, 85, 21, 0, 0, 0, 0, 0, 0, 0, 0, 0, 0, 6, 0, 0, 0, 227, 129, 139, 227, 129, 141, 16, 0, 0, 0, 7, 0, 0, 0, 72, 0, 0, 0, 0, 0, 0, 0, 0, 0, 0, 0, 6, 0, 0, 0, 2, 0, 0, 0, 1, 2]) 5 0 0 false,
     .cells (bs [2, 0, 0, 0, 2, 8]) 5 0 0 false,
     .cells (bs [16, 0, 0, 0, 21, 0, 0, 0, 93, 85, 1, 0, 0, 0, 0, 0, 0, 0, 0, 0, 9, 0, 0, 0, 230, 231, 232, 159, 167, 154, 191, 145, 138, 16, 0, 0, 0, 10, 0, 0, 0, 128, 3, 0, 0, 0, 0, 0, 0, 0, 0, 0, 0, 6, 0, 0, 0, 3, 0, 0, 0, 2, 36]) 5 0 0 false,
     .cells (bs [3, 0, 0, 0, 2, 9]) 5 0 0 false,
     .cells (bs [3, 0, 0, 0, 1, 7]) 5 0 0 false,
     .cells (bs [3, 0, 0, 0, 1, 7]) 5 0 0 false,
     .cells (bs [3, 0, 0, 0, 6, 148, 135, 2]) 5 0 0 false,
     .cells (bs [3, 0, 0, 0, 2, 18]) 5 0 0 false,
     .cells (bs [3, 0, 0, 0, 2, 36]) 5 0 0 false] }
noncomputable def m6 : Memo := {
  gs := []
  args := [(.slice (some ⟨10, 0, none⟩) 60 60)]
  ins := [.cells (bs [16, 0, 0, 0, 15, 0, 0, 0, 85, 21, 0, 0, 0, 0, 0, 0, 0, 0, 0, 0, 6, 0, 0, 0, 227, 129, 139, 227, 129, 141, 16, 0, 0, 0, 7, 0, 0, 0, 72, 0, 0, 0, 0, 0, 0, 0, 0, 0, 0, 0, 6, 0, 0, 0, 2, 0, 0, 0, 1, 2]) 5 0 0 false]
  res := (.tuple ⟨[(.pointer (some ⟨11, 0, none⟩)), (.int .i64 (.ofNat 0))]⟩)
  outs := [.cells [(.pointer (some ⟨12, 0, none⟩)), (.pointer (some ⟨13, 0, none⟩)), (.slice (some ⟨14, 0, none⟩) 6 6), (.pointer (some ⟨15, 0, none⟩)), (.slice (some ⟨16, 0, none⟩) 2 2)] 287 0 0 true,
     .cells [(.int .i64 (.ofNat 15)), (.slice (some ⟨17, 0, none⟩) 1 1), (.slice (some ⟨18, 0, none⟩) 1 1)] 363 0 0 true,
     .cells [(.int .i64 (.ofNat 7)), (.slice (some ⟨19, 0, none⟩) 1 1), (.slice (some ⟨20, 0, none⟩) 1 1)] 363 0 0 true,
     .cells (bs [227, 129, 139, 227, 129, 141]) 5 0 0 false,
     .cells [(.int .i64 (.ofNat 2)), (.int .i64 (.ofNat 1)), (.slice (some ⟨21, 0, none⟩) 1 1)] 331 0 0 true,
     .cells [(.int .i64 (.ofNat 3)), (.int .i64 (.ofNat 6))] 3 0 0 true,
     .cells [(.int .u64 (.ofNat 5461))] 223 0 0 true,
     .cells [(.int .i64 (.ofNat 0))] 3 0 0 false,
     .cells [(.int .u64 (.ofNat 72))] 223 0 0 true,
     .cells [(.int .i64 (.ofNat 0))] 3 0 0 false,
     .cells [(.int .u64 (.ofNat 2))] 223 0 0 true] }
noncomputable def m7 : Memo := {
  gs := []
  args := [(.slice (some ⟨10, 0, none⟩) 63 63)]
  ins := [.cells (bs [16, 0, 0, 0, 21, 0, 0, 0, 93, 85, 1, 0, 0, 0, 0, 0, 0, 0, 0, 0, 9, 0, 0, 0, 230, 231, 232, 159, 167, 154, 191, 145, 138, 16, 0, 0, 0, 10, 0, 0, 0, 128, 3, 0, 0, 0, 0, 0, 0, 0, 0, 0, 0, 6, 0, 0, 0, 3, 0, 0, 0, 2, 36]) 5 0 0 false]
  res := (.tuple ⟨[(.pointer (some ⟨11, 0, none⟩)), (.int .i64 (.ofNat 0))]⟩)
  outs := [.cells [(.pointer (some ⟨12, 0, none⟩)), (.pointer (some ⟨13, 0, none⟩)), (.slice (some ⟨14, 0, none⟩) 9 9), (.pointer (some ⟨15, 0, none⟩)), (.slice (some ⟨16, 0, none⟩) 3 3)] 287 0 0 true,
     .cells [(.int .i64 (.ofNat 21)), (.slice (some ⟨17, 0, none⟩) 1 1), (.slice (some ⟨18, 0, none⟩) 1 1)] 363 0 0 true,
     .cells [(.int .i64 (.ofNat 10)), (.slice (some ⟨19, 0, none⟩) 1 1), (.slice (some ⟨20, 0, none⟩) 1 1)] 363 0 0 true,
     .cells (bs [230, 231, 232, 159, 167, 154, 191, 145, 138]) 5 0 0 false,
     .cells [(.int .i64 (.ofNat 3)), (.int .i64 (.ofNat 2)), (.slice (some ⟨21, 0, none⟩) 1 1)] 331 0 0 true,
     .cells [(.int .i64 (.ofNat 7)), (.int .i64 (.ofNat 8)), (.int .i64 (.ofNat 9))] 3 0 0 true,
     .cells [(.int .u64 (.ofNat 87389))] 223 0 0 true,
     .cells [(.int .i64 (.ofNat 0))] 3 0 0 false,
     .cells [(.int .u64 (.ofNat 896))] 223 0 0 true,
     .cells [(.int .i64 (.ofNat 0))] 3 0 0 false,
     .cells [(.int .u64 (.ofNat 36))] 223 0 0 true] }
noncomputable def m8 : Memo := {
  gs := []
  args := [(.pointer (some ⟨10, 0, none⟩)), (.func (.func 224) ⟨[]⟩ ⟨[(.pointer (some ⟨11, 0, none⟩)), (.pointer (some ⟨12, 0, none⟩))]⟩)]
  ins := [.cells [(.slice (some ⟨13, 0, none⟩) 2 2), (.pointer (some ⟨14, 0, none⟩)), (.pointer (some ⟨15, 0, none⟩)), (.pointer (some ⟨16, 0, none⟩)), (.pointer (some ⟨17, 0, none⟩)), (.pointer (some ⟨18, 0, none⟩)), (.pointer (some ⟨19, 0, none⟩)), (.pointer (some ⟨20, 0, none⟩)), (.pointer (some ⟨21, 0, none⟩)), (.pointer (some ⟨22, 0, none⟩)), (.pointer (some ⟨23, 0, none⟩))] 120 0 0 true,
     .cells [(.int .i64 (.ofNat 0))] 3 0 0 true,
     .cells [(.int .i64 (.ofNat 3))] 3 0 0 true,
     .cells [(.string ⟨⟨[66, 79, 83]⟩⟩), (.int .i64 (.ofNat 0)), (.string ⟨⟨[110, 111, 117, 110]⟩⟩), (.int .i64 (.ofNat 0))] 79 0 0 false,
     .cells [(.int .i64 (.ofNat 2)), (.int .i64 (.ofNat 10)), (.map (some 24))] 310 0 0 true,
     .cells [(.pointer (some ⟨25, 0, none⟩)), (.pointer (some ⟨26, 0, none⟩)), (.slice (some ⟨27, 0, none⟩) 6 6), (.pointer (some ⟨28, 0, none⟩)), (.slice (some ⟨29, 0, none⟩) 2 2)] 287 0 0 true,
     .cells [(.pointer (some ⟨30, 0, none⟩)), (.pointer (some ⟨31, 0, none⟩)), (.slice (some ⟨32, 0, none⟩) 9 9), (.pointer (some ⟨33, 0, none⟩)), (.slice (some ⟨34, 0, none⟩) 3 3)] 287 0 0 true,
     .cells [(.int .i64 (.ofNat 2)), (.int .i64 (.ofNat 2)), (.slice (some ⟨35, 0, none⟩) 1 1)] 331 0 0 true,
     .cells [(.int .i64 (.ofNat 3)), (.int .i64 (.ofNat 2)), (.slice (some ⟨36, 0, none⟩) 1 1)] 331 0 0 true,
     .cells [(.int .i64 (.ofNat 3)), (.int .i64 (.ofNat 1)), (.slice (some ⟨37, 0, none⟩) 1 1)] 331 0 0 true,
     .cells [(.int .i64 (.ofNat 3)), (.int .i64 (.ofNat 1)), (.slice (some ⟨38, 0, none⟩) 1 1)] 331 0 0 true,
     .cells [(.int .i64 (.ofNat 3)), (.int .i64 (.ofNat 6)), (.slice (some ⟨39, 0, none⟩) 1 1)] 331 0 0 true,
     .cells [(.int .i64 (.ofNat 3)), (.int .i64 (.ofNat 2)), (.slice (some ⟨40, 0, none⟩) 1 1)] 331 0 0 true,
     .cells [(.int .i64 (.ofNat 3)), (.int .i64 (.ofNat 2)), (.slice (some ⟨41, 0, none⟩) 1 1)] 331 0 0 true,
     .map [] 0,
     .cells [(.int .i64 (.ofNat 15)), (.slice (some ⟨42, 0, none⟩) 1 1), (.slice (some ⟨43, 0, none⟩) 1 1)] 363 0 0 true,
     .cells [(.int .i64 (.ofNat 7)), (.slice (some ⟨44, 0, none⟩) 1 1), (.slice (some ⟨45, 0, none⟩) 1 1)] 363 0 0 true,
     .cells (bs [227, 129, 139, 227, 129, 141]) 5 0 0 false,
     .cells [(.int .i64 (.ofNat 2)), (.int .i64 (.ofNat 1)), (.slice (some ⟨46, 0, none⟩) 1 1)] 331 0 0 true,
     .cells [(.int .i64 (.ofNat 3)), (.int .i64 (.ofNat 6))] 3 0 0 true,
     .cells [(.int .i64 (.ofNat 21)), (.slice (some ⟨47, 0, none⟩) 1 1), (.slice (some ⟨48, 0, none⟩) 1 1)] 363 0 0 true,
     .cells [(.int .i64 (.ofNat 10)), (.slice (some ⟨49, 0, none⟩) 1 1), (.slice (some ⟨50, 0, none⟩) 1 1)] 363 0 0 true,
     .cells (bs [230, 231, 232, 159, 167, 154, 191, 145, 138]) 5 0 0 false,
     .cells [(.int .i64 (.ofNat 3)), (.int .i64 (.ofNat 2)), (.slice (some ⟨51, 0, none⟩) 1 1)] 331 0 0 true,
     .cells [(.int .i64 (.ofNat 7)), (.int .i64 (.ofNat 8)), (.int .i64 (.ofNat 9))] 3 0 0 true,
     .cells [(.int .u64 (.ofNat 8))] 223 0 0 true,
     .cells [(.int .u64 (.ofNat 9))] 223 0 0 true,
     .cells [(.int .u64 (.ofNat 7))] 223 0 0 true,
     .cells [(.int .u64 (.ofNat 7))] 223 0 0 true,
     .cells [(.int .u64 (.ofNat 165780))] 223 0 0 true,
     .cells [(.int .u64 (.ofNat 18))] 223 0 0 true,
     .cells [(.int .u64 (.ofNat 36))] 223 0 0 true,
     .cells [(.int .u64 (.ofNat 5461))] 223 0 0 true,
     .cells [(.int .i64 (.ofNat 0))] 3 0 0 false,
     .cells [(.int .u64 (.ofNat 72))] 223 0 0 true,
     .cells [(.int .i64 (.ofNat 0))] 3 0 0 false,
     .cells [(.int .u64 (.ofNat 2))] 223 0 0 true,
     .cells [(.int .u64 (.ofNat 87389))] 223 0 0 true,
     .cells [(.int .i64 (.ofNat 0))] 3 0 0 false,
     .cells [(.int .u64 (.ofNat 896))] 223 0 0 true,
     .cells [(.int .i64 (.ofNat 0))] 3 0 0 false,
     .cells [(.int .u64 (.ofNat 36))] 223 0 0 true]
  res := (.slice (some ⟨52, 0, none⟩) 3 3)
  outs := [.cells [(.string ⟨⟨[227, 129, 139]⟩⟩), (.string ⟨⟨[231, 167, 145]⟩⟩), (.int .i64 (.ofNat 1)), (.int .i64 (.ofNat 1)), (.int .i64 (.ofNat 20)), (.string ⟨⟨[227, 129, 139]⟩⟩), (.string ⟨⟨[232, 154, 138]⟩⟩), (.int .i64 (.ofNat 1)), (.int .i64 (.ofNat 1)), (.int .i64 (.ofNat 30)), (.string ⟨⟨[227, 129, 139, 227, 129, 141]⟩⟩), (.string ⟨⟨[230, 159, 191]⟩⟩), (.int .i64 (.ofNat 1)), (.int .i64 (.ofNat 1)), (.int .i64 (.ofNat 40))] 81 0 0 false] }
noncomputable def m9 : Memo := {
  gs := [(0, glob0), (1, glob1), (6, glob6)]
  args := [(.slice (some ⟨10, 0, none⟩) 2 2), (.pointer (some ⟨11, 0, none⟩)), (.slice (some ⟨12, 0, none⟩) 3 3)]
  ins := [.cells [(.string ⟨⟨[66, 79, 83]⟩⟩), (.int .i64 (.ofNat 0)), (.string ⟨⟨[110, 111, 117, 110]⟩⟩), (.int .i64 (.ofNat 0))] 79 0 0 false,
     .cells [(.int .i64 (.ofNat 2)), (.int .i64 (.ofNat 10)), (.map (some 13))] 310 0 0 true,
     .cells [(.string ⟨⟨[227, 129, 139]⟩⟩), (.string ⟨⟨[231, 167, 145]⟩⟩), (.int .i64 (.ofNat 1)), (.int .i64 (.ofNat 1)), (.int .i64 (.ofNat 20)), (.string ⟨⟨[227, 129, 139]⟩⟩), (.string ⟨⟨[232, 154, 138]⟩⟩), (.int .i64 (.ofNat 1)), (.int .i64 (.ofNat 1)), (.int .i64 (.ofNat 30)), (.string ⟨⟨[227, 129, 139, 227, 129, 141]⟩⟩), (.string ⟨⟨[230, 159, 191]⟩⟩), (.int .i64 (.ofNat 1)), (.int .i64 (.ofNat 1)), (.int .i64 (.ofNat 40))] 81 0 0 false,
     .map [] 0]
  res := (.tuple ⟨[(.slice (some ⟨14, 0, none⟩) 270 270), (.int .i64 (.ofNat 0))]⟩)
  outs := [.cells (bs [72, 78, 75, 49, 11, 3, 112, 111, 115, 12, 6, 109, 97, 116, 114, 105, 120, 3, 8, 114, 101, 97, 100, 105, 110, 103, 115, 60, 5, 102, 105, 114, 115, 116, 6, 8, 115, 117, 114, 102, 97, 99, 101, 115, 63, 7, 115, 117, 114, 102, 97, 99, 101, 6, 4, 108, 101, 102, 116, 6, 5, 114, 105, 103, 104, 116, 6, 4, 99, 111, 115, 116, 8, 5, 111, 114, 100, 101, 114, 6, 2, 97, 116, 6, 2, 3, 66, 79, 83, 0, 4, 110, 111, 117, 110, 0, 2, 10, 0, 16, 0, 0, 0, 15, 0, 0, 0, 85, 21, 0, 0, 0, 0, 0, 0, 0, 0, 0, 0, 6, 0, 0, 0, 227, 129, 139, 227, 129, 141, 16, 0, 0, 0, 7, 0, 0, 0, 72, 0, 0, 0, 0, 0, 0, 0, 0, 0, 0, 0, 6, 0, 0, 0, 2, 0, 0, 0, 1, 2, 2, 0, 0, 0, 2, 8, 16, 0, 0, 0, 21, 0, 0, 0, 93, 85, 1, 0, 0, 0, 0, 0, 0, 0, 0, 0, 9, 0, 0, 0, 230, 231, 232, 159, 167, 154, 191, 145, 138, 16, 0, 0, 0, 10, 0, 0, 0, 128, 3, 0, 0, 0, 0, 0, 0, 0, 0, 0, 0, 6, 0, 0, 0, 3, 0, 0, 0, 2, 36, 3, 0, 0, 0, 2, 9, 3, 0, 0, 0, 1, 7, 3, 0, 0, 0, 1, 7, 3, 0, 0, 0, 6, 148, 135, 2, 3, 0, 0, 0, 2, 18, 3, 0, 0, 0, 2, 36, 43, 218, 46, 115]) 5 0 0 false] }
noncomputable def m10 : Memo := {
  gs := [(0, glob0), (1, glob1), (6, glob6)]
  args := [(.slice (some ⟨10, 0, none⟩) 270 270)]
  ins := [.cells (bs [72, 78, 75, 49, 11, 3, 112, 111, 115, 12, 6, 109, 97, 116, 114, 105, 120, 3, 8, 114, 101, 97, 100, 105, 110, 103, 115, 60, 5, 102, 105, 114, 115, 116, 6, 8, 115, 117, 114, 102, 97, 99, 101, 115, 63, 7, 115, 117, 114, 102, 97, 99, 101, 6, 4, 108, 101, 102, 116, 6, 5, 114, 105, 103, 104, 116, 6, 4, 99, 111, 115, 116, 8, 5, 111, 114, 100, 101, 114, 6, 2, 97, 116, 6, 2, 3, 66, 79, 83, 0, 4, 110, 111, 117, 110, 0, 2, 10, 0, 16, 0, 0, 0, 15, 0, 0, 0, 85, 21, 0, 0, 0, 0, 0, 0, 0, 0, 0, 0, 6, 0, 0, 0, 227, 129, 139, 227, 129, 141, 16, 0, 0, 0, 7, 0, 0, 0, 72, 0, 0, 0, 0, 0, 0, 0, 0, 0, 0, 0, 6, 0, 0, 0, 2, 0, 0, 0, 1, 2, 2, 0, 0, 0, 2, 8, 16, 0, 0, 0, 21, 0, 0, 0, 93, 85, 1, 0, 0, 0, 0, 0, 0, 0, 0, 0, 9, 0, 0, 0, 230, 231, 232, 159, 167, 154, 191, 145, 138, 16, 0, 0, 0, 10, 0, 0, 0, 128, 3, 0, 0, 0, 0, 0, 0, 0, 0, 0, 0, 6, 0, 0, 0, 3, 0, 0, 0, 2, 36, 3, 0, 0, 0, 2, 9, 3, 0, 0, 0, 1, 7, 3, 0, 0, 0, 1, 7, 3, 0, 0, 0, 6, 148, 135, 2, 3, 0, 0, 0, 2, 18, 3, 0, 0, 0, 2, 36, 43, 218, 46, 115]) 5 0 0 false]
  res := (.tuple ⟨[(.pointer (some ⟨11, 0, none⟩)), (.int .i64 (.ofNat 0))]⟩)
  outs := [.cells [(.slice (some ⟨12, 0, none⟩) 2 2), (.pointer (some ⟨13, 0, none⟩)), (.pointer (some ⟨14, 0, none⟩)), (.pointer (some ⟨15, 0, none⟩)), (.pointer (some ⟨16, 0, none⟩)), (.pointer (some ⟨17, 0, none⟩)), (.pointer (some ⟨18, 0, none⟩)), (.pointer (some ⟨19, 0, none⟩)), (.pointer (some ⟨20, 0, none⟩)), (.pointer (some ⟨21, 0, none⟩)), (.pointer (some ⟨22, 0, none⟩))] 120 0 0 true,
     .cells [(.string ⟨⟨[66, 79, 83]⟩⟩), (.int .i64 (.ofNat 0)), (.string ⟨⟨[110, 111, 117, 110]⟩⟩), (.int .i64 (.ofNat 0))] 79 0 0 false,
     .cells [(.int .i64 (.ofNat 2)), (.int .i64 (.ofNat 10)), (.map (some 23))] 310 0 0 true,
     .cells [(.pointer (some ⟨24, 0, none⟩)), (.pointer (some ⟨25, 0, none⟩)), (.slice (some ⟨26, 0, none⟩) 6 6), (.pointer (some ⟨27, 0, none⟩)), (.slice (some ⟨28, 0, none⟩) 2 2)] 287 0 0 true,
     .cells [(.pointer (some ⟨29, 0, none⟩)), (.pointer (some ⟨30, 0, none⟩)), (.slice (some ⟨31, 0, none⟩) 9 9), (.pointer (some ⟨32, 0, none⟩)), (.slice (some ⟨33, 0, none⟩) 3 3)] 287 0 0 true,
     .cells [(.int .i64 (.ofNat 2)), (.int .i64 (.ofNat 2)), (.slice (some ⟨34, 0, none⟩) 1 1)] 331 0 0 true,
     .cells [(.int .i64 (.ofNat 3)), (.int .i64 (.ofNat 2)), (.slice (some ⟨35, 0, none⟩) 1 1)] 331 0 0 true,
     .cells [(.int .i64 (.ofNat 3)), (.int .i64 (.ofNat 1)), (.slice (some ⟨36, 0, none⟩) 1 1)] 331 0 0 true,
     .cells [(.int .i64 (.ofNat 3)), (.int .i64 (.ofNat 1)), (.slice (some ⟨37, 0, none⟩) 1 1)] 331 0 0 true,
     .cells [(.int .i64 (.ofNat 3)), (.int .i64 (.ofNat 6)), (.slice (some ⟨38, 0, none⟩) 1 1)] 331 0 0 true,
     .cells [(.int .i64 (.ofNat 3)), (.int .i64 (.ofNat 2)), (.slice (some ⟨39, 0, none⟩) 1 1)] 331 0 0 true,
     .cells [(.int .i64 (.ofNat 3)), (.int .i64 (.ofNat 2)), (.slice (some ⟨40, 0, none⟩) 1 1)] 331 0 0 true,
     .map [] 0,
     .cells [(.int .i64 (.ofNat 15)), (.slice (some ⟨41, 0, none⟩) 1 1), (.slice (some ⟨42, 0, none⟩) 1 1)] 363 0 0 true,
     .cells [(.int .i64 (.ofNat 7)), (.slice (some ⟨43, 0, none⟩) 1 1), (.slice (some ⟨44, 0, none⟩) 1 1)] 363 0 0 true,
     .cells (bs [227, 129, 139, 227, 129, 141]) 5 0 0 false,
     .cells [(.int .i64 (.ofNat 2)), (.int .i64 (.ofNat 1)), (.slice (some ⟨45, 0, none⟩) 1 1)] 331 0 0 true,
     .cells [(.int .i64 (.ofNat 3)), (.int .i64 (.ofNat 6))] 3 0 0 true,
     .cells [(.int .i64 (.ofNat 21)), (.slice (some ⟨46, 0, none⟩) 1 1), (.slice (some ⟨47, 0, none⟩) 1 1)] 363 0 0 true,
     .cells [(.int .i64 (.ofNat 10)), (.slice (some ⟨48, 0, none⟩) 1 1), (.slice (some ⟨49, 0, none⟩) 1 1)] 363 0 0 true,
     .cells (bs [230, 231, 232, 159, 167, 154, 191, 145, 138]) 5 0 0 false,
     .cells [(.int .i64 (.ofNat 3)), (.int .i64 (.ofNat 2)), (.slice (some ⟨50, 0, none⟩) 1 1)] 331 0 0 true,
     .cells [(.int .i64 (.ofNat 7)), (.int .i64 (.ofNat 8)), (.int .i64 (.ofNat 9))] 3 0 0 true,
     .cells [(.int .u64 (.ofNat 8))] 223 0 0 true,
     .cells [(.int .u64 (.ofNat 9))] 223 0 0 true,
     .cells [(.int .u64 (.ofNat 7))] 223 0 0 true,
     .cells [(.int .u64 (.ofNat 7))] 223 0 0 true,
     .cells [(.int .u64 (.ofNat 165780))] 223 0 0 true,
     .cells [(.int .u64 (.ofNat 18))] 223 0 0 true,
     .cells [(.int .u64 (.ofNat 36))] 223 0 0 true,
     .cells [(.int .u64 (.ofNat 5461))] 223 0 0 true,
     .cells [(.int .i64 (.ofNat 0))] 3 0 0 false,
     .cells [(.int .u64 (.ofNat 72))] 223 0 0 true,
     .cells [(.int .i64 (.ofNat 0))] 3 0 0 false,
     .cells [(.int .u64 (.ofNat 2))] 223 0 0 true,
     .cells [(.int .u64 (.ofNat 87389))] 223 0 0 true,
     .cells [(.int .i64 (.ofNat 0))] 3 0 0 false,
     .cells [(.int .u64 (.ofNat 896))] 223 0 0 true,
     .cells [(.int .i64 (.ofNat 0))] 3 0 0 false,
     .cells [(.int .u64 (.ofNat 36))] 223 0 0 true] }
noncomputable def m11 : Memo := {
  gs := []
  args := [(.pointer (some ⟨10, 0, none⟩)), (.string ⟨⟨[227, 129, 139, 227, 129, 141]⟩⟩)]
  ins := [.cells [(.pointer (some ⟨11, 0, none⟩)), (.pointer (some ⟨12, 0, none⟩)), (.slice (some ⟨13, 0, none⟩) 6 6), (.pointer (some ⟨14, 0, none⟩)), (.slice (some ⟨15, 0, none⟩) 2 2)] 287 0 0 true,
     .cells [(.int .i64 (.ofNat 15)), (.slice (some ⟨16, 0, none⟩) 1 1), (.slice (some ⟨17, 0, none⟩) 1 1)] 363 0 0 true,
     .cells [(.int .i64 (.ofNat 7)), (.slice (some ⟨18, 0, none⟩) 1 1), (.slice (some ⟨19, 0, none⟩) 1 1)] 363 0 0 true,
     .cells (bs [227, 129, 139, 227, 129, 141]) 5 0 0 false,
     .cells [(.int .i64 (.ofNat 2)), (.int .i64 (.ofNat 1)), (.slice (some ⟨20, 0, none⟩) 1 1)] 331 0 0 true,
     .cells [(.int .i64 (.ofNat 3)), (.int .i64 (.ofNat 6))] 3 0 0 true,
     .cells [(.int .u64 (.ofNat 5461))] 223 0 0 true,
     .cells [(.int .i64 (.ofNat 0))] 3 0 0 false,
     .cells [(.int .u64 (.ofNat 72))] 223 0 0 true,
     .cells [(.int .i64 (.ofNat 0))] 3 0 0 false,
     .cells [(.int .u64 (.ofNat 2))] 223 0 0 true]
  res := (.slice (some ⟨21, 0, none⟩) 2 2)
  outs := [.cells [(.int .i64 (.ofNat 0)), (.int .i64 (.ofNat 3)), (.int .i64 (.ofNat 1)), (.int .i64 (.ofNat 6))] 340 0 0 false] }
noncomputable def m12 : Memo := {
  gs := []
  args := [(.pointer (some ⟨10, 0, none⟩)), (.func (.func 224) ⟨[]⟩ ⟨[(.pointer (some ⟨11, 0, none⟩)), (.pointer (some ⟨12, 0, none⟩))]⟩)]
  ins := [.cells [(.slice (some ⟨13, 0, none⟩) 2 2), (.pointer (some ⟨14, 0, none⟩)), (.pointer (some ⟨15, 0, none⟩)), (.pointer (some ⟨16, 0, none⟩)), (.pointer (some ⟨17, 0, none⟩)), (.pointer (some ⟨18, 0, none⟩)), (.pointer (some ⟨19, 0, none⟩)), (.pointer (some ⟨20, 0, none⟩)), (.pointer (some ⟨21, 0, none⟩)), (.pointer (some ⟨22, 0, none⟩)), (.pointer (some ⟨23, 0, none⟩))] 120 0 0 true,
     .cells [(.int .i64 (.ofNat 0))] 3 0 0 true,
     .cells [(.int .i64 (.ofNat 2))] 3 0 0 true,
     .cells [(.string ⟨⟨[66, 79, 83]⟩⟩), (.int .i64 (.ofNat 0)), (.string ⟨⟨[110, 111, 117, 110]⟩⟩), (.int .i64 (.ofNat 0))] 79 0 0 false,
     .cells [(.int .i64 (.ofNat 2)), (.int .i64 (.ofNat 10)), (.map (some 24))] 310 0 0 true,
     .cells [(.pointer (some ⟨25, 0, none⟩)), (.pointer (some ⟨26, 0, none⟩)), (.slice (some ⟨27, 0, none⟩) 6 6), (.pointer (some ⟨28, 0, none⟩)), (.slice (some ⟨29, 0, none⟩) 2 2)] 287 0 0 true,
     .cells [(.pointer (some ⟨30, 0, none⟩)), (.pointer (some ⟨31, 0, none⟩)), (.slice (some ⟨32, 0, none⟩) 9 9), (.pointer (some ⟨33, 0, none⟩)), (.slice (some ⟨34, 0, none⟩) 3 3)] 287 0 0 true,
     .cells [(.int .i64 (.ofNat 2)), (.int .i64 (.ofNat 2)), (.slice (some ⟨35, 0, none⟩) 1 1)] 331 0 0 true,
     .cells [(.int .i64 (.ofNat 3)), (.int .i64 (.ofNat 2)), (.slice (some ⟨36, 0, none⟩) 1 1)] 331 0 0 true,
     .cells [(.int .i64 (.ofNat 3)), (.int .i64 (.ofNat 1)), (.slice (some ⟨37, 0, none⟩) 1 1)] 331 0 0 true,
     .cells [(.int .i64 (.ofNat 3)), (.int .i64 (.ofNat 1)), (.slice (some ⟨38, 0, none⟩) 1 1)] 331 0 0 true,
     .cells [(.int .i64 (.ofNat 3)), (.int .i64 (.ofNat 6)), (.slice (some ⟨39, 0, none⟩) 1 1)] 331 0 0 true,
     .cells [(.int .i64 (.ofNat 3)), (.int .i64 (.ofNat 2)), (.slice (some ⟨40, 0, none⟩) 1 1)] 331 0 0 true,
     .cells [(.int .i64 (.ofNat 3)), (.int .i64 (.ofNat 2)), (.slice (some ⟨41, 0, none⟩) 1 1)] 331 0 0 true,
     .map [] 0,
     .cells [(.int .i64 (.ofNat 15)), (.slice (some ⟨42, 0, none⟩) 1 1), (.slice (some ⟨43, 0, none⟩) 1 1)] 363 0 0 true,
     .cells [(.int .i64 (.ofNat 7)), (.slice (some ⟨44, 0, none⟩) 1 1), (.slice (some ⟨45, 0, none⟩) 1 1)] 363 0 0 true,
     .cells (bs [227, 129, 139, 227, 129, 141]) 5 0 0 false,
     .cells [(.int .i64 (.ofNat 2)), (.int .i64 (.ofNat 1)), (.slice (some ⟨46, 0, none⟩) 1 1)] 331 0 0 true,
     .cells [(.int .i64 (.ofNat 3)), (.int .i64 (.ofNat 6))] 3 0 0 true,
     .cells [(.int .i64 (.ofNat 21)), (.slice (some ⟨47, 0, none⟩) 1 1), (.slice (some ⟨48, 0, none⟩) 1 1)] 363 0 0 true,
     .cells [(.int .i64 (.ofNat 10)), (.slice (some ⟨49, 0, none⟩) 1 1), (.slice (some ⟨50, 0, none⟩) 1 1)] 363 0 0 true,
     .cells (bs [230, 231, 232, 159, 167, 154, 191, 145, 138]) 5 0 0 false,
     .cells [(.int .i64 (.ofNat 3)), (.int .i64 (.ofNat 2)), (.slice (some ⟨51, 0, none⟩) 1 1)] 331 0 0 true,
     .cells [(.int .i64 (.ofNat 7)), (.int .i64 (.ofNat 8)), (.int .i64 (.ofNat 9))] 3 0 0 true,
     .cells [(.int .u64 (.ofNat 8))] 223 0 0 true,
     .cells [(.int .u64 (.ofNat 9))] 223 0 0 true,
     .cells [(.int .u64 (.ofNat 7))] 223 0 0 true,
     .cells [(.int .u64 (.ofNat 7))] 223 0 0 true,
     .cells [(.int .u64 (.ofNat 165780))] 223 0 0 true,
     .cells [(.int .u64 (.ofNat 18))] 223 0 0 true,
     .cells [(.int .u64 (.ofNat 36))] 223 0 0 true,
     .cells [(.int .u64 (.ofNat 5461))] 223 0 0 true,
     .cells [(.int .i64 (.ofNat 0))] 3 0 0 false,
     .cells [(.int .u64 (.ofNat 72))] 223 0 0 true,
     .cells [(.int .i64 (.ofNat 0))] 3 0 0 false,
     .cells [(.int .u64 (.ofNat 2))] 223 0 0 true,
     .cells [(.int .u64 (.ofNat 87389))] 223 0 0 true,
     .cells [(.int .i64 (.ofNat 0))] 3 0 0 false,
     .cells [(.int .u64 (.ofNat 896))] 223 0 0 true,
     .cells [(.int .i64 (.ofNat 0))] 3 0 0 false,
     .cells [(.int .u64 (.ofNat 36))] 223 0 0 true]
  res := (.slice (some ⟨52, 0, none⟩) 2 2)
  outs := [.cells [(.string ⟨⟨[227, 129, 139]⟩⟩), (.string ⟨⟨[231, 167, 145]⟩⟩), (.int .i64 (.ofNat 1)), (.int .i64 (.ofNat 1)), (.int .i64 (.ofNat 20)), (.string ⟨⟨[227, 129, 139]⟩⟩), (.string ⟨⟨[232, 154, 138]⟩⟩), (.int .i64 (.ofNat 1)), (.int .i64 (.ofNat 1)), (.int .i64 (.ofNat 30))] 81 0 0 false] }
noncomputable def m13 : Memo := {
  gs := []
  args := [(.pointer (some ⟨10, 0, none⟩)), (.int .i64 (.ofNat 0))]
  ins := [.cells [(.slice (some ⟨11, 0, none⟩) 2 2), (.pointer (some ⟨12, 0, none⟩)), (.pointer (some ⟨13, 0, none⟩)), (.pointer (some ⟨14, 0, none⟩)), (.pointer (some ⟨15, 0, none⟩)), (.pointer (some ⟨16, 0, none⟩)), (.pointer (some ⟨17, 0, none⟩)), (.pointer (some ⟨18, 0, none⟩)), (.pointer (some ⟨19, 0, none⟩)), (.pointer (some ⟨20, 0, none⟩)), (.pointer (some ⟨21, 0, none⟩))] 120 0 0 true,
     .cells [(.string ⟨⟨[66, 79, 83]⟩⟩), (.int .i64 (.ofNat 0)), (.string ⟨⟨[110, 111, 117, 110]⟩⟩), (.int .i64 (.ofNat 0))] 79 0 0 false,
     .cells [(.int .i64 (.ofNat 2)), (.int .i64 (.ofNat 10)), (.map (some 22))] 310 0 0 true,
     .cells [(.pointer (some ⟨23, 0, none⟩)), (.pointer (some ⟨24, 0, none⟩)), (.slice (some ⟨25, 0, none⟩) 6 6), (.pointer (some ⟨26, 0, none⟩)), (.slice (some ⟨27, 0, none⟩) 2 2)] 287 0 0 true,
     .cells [(.pointer (some ⟨28, 0, none⟩)), (.pointer (some ⟨29, 0, none⟩)), (.slice (some ⟨30, 0, none⟩) 9 9), (.pointer (some ⟨31, 0, none⟩)), (.slice (some ⟨32, 0, none⟩) 3 3)] 287 0 0 true,
     .cells [(.int .i64 (.ofNat 2)), (.int .i64 (.ofNat 2)), (.slice (some ⟨33, 0, none⟩) 1 1)] 331 0 0 true,
     .cells [(.int .i64 (.ofNat 3)), (.int .i64 (.ofNat 2)), (.slice (some ⟨34, 0, none⟩) 1 1)] 331 0 0 true,
     .cells [(.int .i64 (.ofNat 3)), (.int .i64 (.ofNat 1)), (.slice (some ⟨35, 0, none⟩) 1 1)] 331 0 0 true,
     .cells [(.int .i64 (.ofNat 3)), (.int .i64 (.ofNat 1)), (.slice (some ⟨36, 0, none⟩) 1 1)] 331 0 0 true,
     .cells [(.int .i64 (.ofNat 3)), (.int .i64 (.ofNat 6)), (.slice (some ⟨37, 0, none⟩) 1 1)] 331 0 0 true,
     .cells [(.int .i64 (.ofNat 3)), (.int .i64 (.ofNat 2)), (.slice (some ⟨38, 0, none⟩) 1 1)] 331 0 0 true,
     .cells [(.int .i64 (.ofNat 3)), (.int .i64 (.ofNat 2)), (.slice (some ⟨39, 0, none⟩) 1 1)] 331 0 0 true,
     .map [] 0,
     .cells [(.int .i64 (.ofNat 15)), (.slice (some ⟨40, 0, none⟩) 1 1), (.slice (some ⟨41, 0, none⟩) 1 1)] 363 0 0 true,
     .cells [(.int .i64 (.ofNat 7)), (.slice (some ⟨42, 0, none⟩) 1 1), (.slice (some ⟨43, 0, none⟩) 1 1)] 363 0 0 true,
     .cells (bs [227, 129, 139, 227, 129, 141]) 5 0 0 false,
     .cells [(.int .i64 (.ofNat 2)), (.int .i64 (.ofNat 1)), (.slice (some ⟨44, 0, none⟩) 1 1)] 331 0 0 true,
     .cells [(.int .i64 (.ofNat 3)), (.int .i64 (.ofNat 6))] 3 0 0 true,
     .cells [(.int .i64 (.ofNat 21)), (.slice (some ⟨45, 0, none⟩) 1 1), (.slice (some ⟨46, 0, none⟩) 1 1)] 363 0 0 true,
     .cells [(.int .i64 (.ofNat 10)), (.slice (some ⟨47, 0, none⟩) 1 1), (.slice (some ⟨48, 0, none⟩) 1 1)] 363 0 0 true,
     .cells (bs [230, 231, 232, 159, 167, 154, 191, 145, 138]) 5 0 0 false,
     .cells [(.int .i64 (.ofNat 3)), (.int .i64 (.ofNat 2)), (.slice (some ⟨49, 0, none⟩) 1 1)] 331 0 0 true,
     .cells [(.int .i64 (.ofNat 7)), (.int .i64 (.ofNat 8)), (.int .i64 (.ofNat 9))] 3 0 0 true,
     .cells [(.int .u64 (.ofNat 8))] 223 0 0 true,
     .cells [(.int .u64 (.ofNat 9))] 223 0 0 true,
     .cells [(.int .u64 (.ofNat 7))] 223 0 0 true,
     .cells [(.int .u64 (.ofNat 7))] 223 0 0 true,
     .cells [(.int .u64 (.ofNat 165780))] 223 0 0 true,
     .cells [(.int .u64 (.ofNat 18))] 223 0 0 true,
     .cells [(.int .u64 (.ofNat 36))] 223 0 0 true,
     .cells [(.int .u64 (.ofNat 5461))] 223 0 0 true,
     .cells [(.int .i64 (.ofNat 0))] 3 0 0 false,
     .cells [(.int .u64 (.ofNat 72))] 223 0 0 true,
     .cells [(.int .i64 (.ofNat 0))] 3 0 0 false,
     .cells [(.int .u64 (.ofNat 2))] 223 0 0 true,
     .cells [(.int .u64 (.ofNat 87389))] 223 0 0 true,
     .cells [(.int .i64 (.ofNat 0))] 3 0 0 false,
     .cells [(.int .u64 (.ofNat 896))] 223 0 0 true,
     .cells [(.int .i64 (.ofNat 0))] 3 0 0 false,
     .cells [(.int .u64 (.ofNat 36))] 223 0 0 true]
  res := (.slice (some ⟨50, 0, none⟩) 2 2)
  outs := [.cells [(.string ⟨⟨[227, 129, 139]⟩⟩), (.string ⟨⟨[231, 167, 145]⟩⟩), (.int .i64 (.ofNat 1)), (.int .i64 (.ofNat 1)), (.int .i64 (.ofNat 20)), (.string ⟨⟨[227, 129, 139]⟩⟩), (.string ⟨⟨[232, 154, 138]⟩⟩), (.int .i64 (.ofNat 1)), (.int .i64 (.ofNat 1)), (.int .i64 (.ofNat 30))] 81 0 0 false] }
noncomputable def m14 : Memo := {
  gs := []
  args := [(.pointer (some ⟨10, 0, none⟩)), (.func (.func 224) ⟨[]⟩ ⟨[(.pointer (some ⟨11, 0, none⟩)), (.pointer (some ⟨12, 0, none⟩))]⟩)]
  ins := [.cells [(.slice (some ⟨13, 0, none⟩) 2 2), (.pointer (some ⟨14, 0, none⟩)), (.pointer (some ⟨15, 0, none⟩)), (.pointer (some ⟨16, 0, none⟩)), (.pointer (some ⟨17, 0, none⟩)), (.pointer (some ⟨18, 0, none⟩)), (.pointer (some ⟨19, 0, none⟩)), (.pointer (some ⟨20, 0, none⟩)), (.pointer (some ⟨21, 0, none⟩)), (.pointer (some ⟨22, 0, none⟩)), (.pointer (some ⟨23, 0, none⟩))] 120 0 0 true,
     .cells [(.int .i64 (.ofNat 2))] 3 0 0 true,
     .cells [(.int .i64 (.ofNat 3))] 3 0 0 true,
     .cells [(.string ⟨⟨[66, 79, 83]⟩⟩), (.int .i64 (.ofNat 0)), (.string ⟨⟨[110, 111, 117, 110]⟩⟩), (.int .i64 (.ofNat 0))] 79 0 0 false,
     .cells [(.int .i64 (.ofNat 2)), (.int .i64 (.ofNat 10)), (.map (some 24))] 310 0 0 true,
     .cells [(.pointer (some ⟨25, 0, none⟩)), (.pointer (some ⟨26, 0, none⟩)), (.slice (some ⟨27, 0, none⟩) 6 6), (.pointer (some ⟨28, 0, none⟩)), (.slice (some ⟨29, 0, none⟩) 2 2)] 287 0 0 true,
     .cells [(.pointer (some ⟨30, 0, none⟩)), (.pointer (some ⟨31, 0, none⟩)), (.slice (some ⟨32, 0, none⟩) 9 9), (.pointer (some ⟨33, 0, none⟩)), (.slice (some ⟨34, 0, none⟩) 3 3)] 287 0 0 true,
     .cells [(.int .i64 (.ofNat 2)), (.int .i64 (.ofNat 2)), (.slice (some ⟨35, 0, none⟩) 1 1)] 331 0 0 true,
     .cells [(.int .i64 (.ofNat 3)), (.int .i64 (.ofNat 2)), (.slice (some ⟨36, 0, none⟩) 1 1)] 331 0 0 true,
     .cells [(.int .i64 (.ofNat 3)), (.int .i64 (.ofNat 1)), (.slice (some ⟨37, 0, none⟩) 1 1)] 331 0 0 true,
     .cells [(.int .i64 (.ofNat 3)), (.int .i64 (.ofNat 1)), (.slice (some ⟨38, 0, none⟩) 1 1)] 331 0 0 true,
     .cells [(.int .i64 (.ofNat 3)), (.int .i64 (.ofNat 6)), (.slice (some ⟨39, 0, none⟩) 1 1)] 331 0 0 true,
     .cells [(.int .i64 (.ofNat 3)), (.int .i64 (.ofNat 2)), (.slice (some ⟨40, 0, none⟩) 1 1)] 331 0 0 true,
     .cells [(.int .i64 (.ofNat 3)), (.int .i64 (.ofNat 2)), (.slice (some ⟨41, 0, none⟩) 1 1)] 331 0 0 true,
     .map [] 0,
     .cells [(.int .i64 (.ofNat 15)), (.slice (some ⟨42, 0, none⟩) 1 1), (.slice (some ⟨43, 0, none⟩) 1 1)] 363 0 0 true,
     .cells [(.int .i64 (.ofNat 7)), (.slice (some ⟨44, 0, none⟩) 1 1), (.slice (some ⟨45, 0, none⟩) 1 1)] 363 0 0 true,
     .cells (bs [227, 129, 139, 227, 129, 141]) 5 0 0 false,
     .cells [(.int .i64 (.ofNat 2)), (.int .i64 (.ofNat 1)), (.slice (some ⟨46, 0, none⟩) 1 1)] 331 0 0 true,
     .cells [(.int .i64 (.ofNat 3)), (.int .i64 (.ofNat 6))] 3 0 0 true,
     .cells [(.int .i64 (.ofNat 21)), (.slice (some ⟨47, 0, none⟩) 1 1), (.slice (some ⟨48, 0, none⟩) 1 1)] 363 0 0 true,
     .cells [(.int .i64 (.ofNat 10)), (.slice (some ⟨49, 0, none⟩) 1 1), (.slice (some ⟨50, 0, none⟩) 1 1)] 363 0 0 true,
     .cells (bs [230, 231, 232, 159, 167, 154, 191, 145, 138]) 5 0 0 false,
     .cells [(.int .i64 (.ofNat 3)), (.int .i64 (.ofNat 2)), (.slice (some ⟨51, 0, none⟩) 1 1)] 331 0 0 true,
     .cells [(.int .i64 (.ofNat 7)), (.int .i64 (.ofNat 8)), (.int .i64 (.ofNat 9))] 3 0 0 true,
     .cells [(.int .u64 (.ofNat 8))] 223 0 0 true,
     .cells [(.int .u64 (.ofNat 9))] 223 0 0 true,
     .cells [(.int .u64 (.ofNat 7))] 223 0 0 true,
     .cells [(.int .u64 (.ofNat 7))] 223 0 0 true,
     .cells [(.int .u64 (.ofNat 165780))] 223 0 0 true,
     .cells [(.int .u64 (.ofNat 18))] 223 0 0 true,
     .cells [(.int .u64 (.ofNat 36))] 223 0 0 true,
     .cells [(.int .u64 (.ofNat 5461))] 223 0 0 true,
     .cells [(.int .i64 (.ofNat 0))] 3 0 0 false,
     .cells [(.int .u64 (.ofNat 72))] 223 0 0 true,
     .cells [(.int .i64 (.ofNat 0))] 3 0 0 false,
     .cells [(.int .u64 (.ofNat 2))] 223 0 0 true,
     .cells [(.int .u64 (.ofNat 87389))] 223 0 0 true,
     .cells [(.int .i64 (.ofNat 0))] 3 0 0 false,
     .cells [(.int .u64 (.ofNat 896))] 223 0 0 true,
     .cells [(.int .i64 (.ofNat 0))] 3 0 0 false,
     .cells [(.int .u64 (.ofNat 36))] 223 0 0 true]
  res := (.slice (some ⟨52, 0, none⟩) 1 1)
  outs := [.cells [(.string ⟨⟨[227, 129, 139, 227, 129, 141]⟩⟩), (.string ⟨⟨[230, 159, 191]⟩⟩), (.int .i64 (.ofNat 1)), (.int .i64 (.ofNat 1)), (.int .i64 (.ofNat 40))] 81 0 0 false] }
noncomputable def m15 : Memo := {
  gs := []
  args := [(.pointer (some ⟨10, 0, none⟩)), (.int .i64 (.ofNat 1))]
  ins := [.cells [(.slice (some ⟨11, 0, none⟩) 2 2), (.pointer (some ⟨12, 0, none⟩)), (.pointer (some ⟨13, 0, none⟩)), (.pointer (some ⟨14, 0, none⟩)), (.pointer (some ⟨15, 0, none⟩)), (.pointer (some ⟨16, 0, none⟩)), (.pointer (some ⟨17, 0, none⟩)), (.pointer (some ⟨18, 0, none⟩)), (.pointer (some ⟨19, 0, none⟩)), (.pointer (some ⟨20, 0, none⟩)), (.pointer (some ⟨21, 0, none⟩))] 120 0 0 true,
     .cells [(.string ⟨⟨[66, 79, 83]⟩⟩), (.int .i64 (.ofNat 0)), (.string ⟨⟨[110, 111, 117, 110]⟩⟩), (.int .i64 (.ofNat 0))] 79 0 0 false,
     .cells [(.int .i64 (.ofNat 2)), (.int .i64 (.ofNat 10)), (.map (some 22))] 310 0 0 true,
     .cells [(.pointer (some ⟨23, 0, none⟩)), (.pointer (some ⟨24, 0, none⟩)), (.slice (some ⟨25, 0, none⟩) 6 6), (.pointer (some ⟨26, 0, none⟩)), (.slice (some ⟨27, 0, none⟩) 2 2)] 287 0 0 true,
     .cells [(.pointer (some ⟨28, 0, none⟩)), (.pointer (some ⟨29, 0, none⟩)), (.slice (some ⟨30, 0, none⟩) 9 9), (.pointer (some ⟨31, 0, none⟩)), (.slice (some ⟨32, 0, none⟩) 3 3)] 287 0 0 true,
     .cells [(.int .i64 (.ofNat 2)), (.int .i64 (.ofNat 2)), (.slice (some ⟨33, 0, none⟩) 1 1)] 331 0 0 true,
     .cells [(.int .i64 (.ofNat 3)), (.int .i64 (.ofNat 2)), (.slice (some ⟨34, 0, none⟩) 1 1)] 331 0 0 true,
     .cells [(.int .i64 (.ofNat 3)), (.int .i64 (.ofNat 1)), (.slice (some ⟨35, 0, none⟩) 1 1)] 331 0 0 true,
     .cells [(.int .i64 (.ofNat 3)), (.int .i64 (.ofNat 1)), (.slice (some ⟨36, 0, none⟩) 1 1)] 331 0 0 true,
     .cells [(.int .i64 (.ofNat 3)), (.int .i64 (.ofNat 6)), (.slice (some ⟨37, 0, none⟩) 1 1)] 331 0 0 true,
     .cells [(.int .i64 (.ofNat 3)), (.int .i64 (.ofNat 2)), (.slice (some ⟨38, 0, none⟩) 1 1)] 331 0 0 true,
     .cells [(.int .i64 (.ofNat 3)), (.int .i64 (.ofNat 2)), (.slice (some ⟨39, 0, none⟩) 1 1)] 331 0 0 true,
     .map [] 0,
     .cells [(.int .i64 (.ofNat 15)), (.slice (some ⟨40, 0, none⟩) 1 1), (.slice (some ⟨41, 0, none⟩) 1 1)] 363 0 0 true,
     .cells [(.int .i64 (.ofNat 7)), (.slice (some ⟨42, 0, none⟩) 1 1), (.slice (some ⟨43, 0, none⟩) 1 1)] 363 0 0 true,
     .cells (bs [227, 129, 139, 227, 129, 141]) 5 0 0 false,
     .cells [(.int .i64 (.ofNat 2)), (.int .i64 (.ofNat 1)), (.slice (some ⟨44, 0, none⟩) 1 1)] 331 0 0 true,
     .cells [(.int .i64 (.ofNat 3)), (.int .i64 (.ofNat 6))] 3 0 0 true,
     .cells [(.int .i64 (.ofNat 21)), (.slice (some ⟨45, 0, none⟩) 1 1), (.slice (some ⟨46, 0, none⟩) 1 1)] 363 0 0 true,
     .cells [(.int .i64 (.ofNat 10)), (.slice (some ⟨47, 0, none⟩) 1 1), (.slice (some ⟨48, 0, none⟩) 1 1)] 363 0 0 true,
     .cells (bs [230, 231, 232, 159, 167, 154, 191, 145, 138]) 5 0 0 false,
     .cells [(.int .i64 (.ofNat 3)), (.int .i64 (.ofNat 2)), (.slice (some ⟨49, 0, none⟩) 1 1)] 331 0 0 true,
     .cells [(.int .i64 (.ofNat 7)), (.int .i64 (.ofNat 8)), (.int .i64 (.ofNat 9))] 3 0 0 true,
     .cells [(.int .u64 (.ofNat 8))] 223 0 0 true,
     .cells [(.int .u64 (.ofNat 9))] 223 0 0 true,
     .cells [(.int .u64 (.ofNat 7))] 223 0 0 true,
     .cells [(.int .u64 (.ofNat 7))] 223 0 0 true,
     .cells [(.int .u64 (.ofNat 165780))] 223 0 0 true,
     .cells [(.int .u64 (.ofNat 18))] 223 0 0 true,
     .cells [(.int .u64 (.ofNat 36))] 223 0 0 true,
     .cells [(.int .u64 (.ofNat 5461))] 223 0 0 true,
     .cells [(.int .i64 (.ofNat 0))] 3 0 0 false,
     .cells [(.int .u64 (.ofNat 72))] 223 0 0 true,
     .cells [(.int .i64 (.ofNat 0))] 3 0 0 false,
     .cells [(.int .u64 (.ofNat 2))] 223 0 0 true,
     .cells [(.int .u64 (.ofNat 87389))] 223 0 0 true,
     .cells [(.int .i64 (.ofNat 0))] 3 0 0 false,
     .cells [(.int .u64 (.ofNat 896))] 223 0 0 true,
     .cells [(.int .i64 (.ofNat 0))] 3 0 0 false,
     .cells [(.int .u64 (.ofNat 36))] 223 0 0 true]
  res := (.slice (some ⟨50, 0, none⟩) 1 1)
  outs := [.cells [(.string ⟨⟨[227, 129, 139, 227, 129, 141]⟩⟩), (.string ⟨⟨[230, 159, 191]⟩⟩), (.int .i64 (.ofNat 1)), (.int .i64 (.ofNat 1)), (.int .i64 (.ofNat 40))] 81 0 0 false] }
noncomputable def m16 : Memo := {
  gs := []
  args := [(.pointer (some ⟨10, 0, none⟩)), (.string ⟨⟨[227, 129, 139, 227, 129, 141]⟩⟩)]
  ins := [.cells [(.slice (some ⟨11, 0, none⟩) 2 2), (.pointer (some ⟨12, 0, none⟩)), (.pointer (some ⟨13, 0, none⟩)), (.pointer (some ⟨14, 0, none⟩)), (.pointer (some ⟨15, 0, none⟩)), (.pointer (some ⟨16, 0, none⟩)), (.pointer (some ⟨17, 0, none⟩)), (.pointer (some ⟨18, 0, none⟩)), (.pointer (some ⟨19, 0, none⟩)), (.pointer (some ⟨20, 0, none⟩)), (.pointer (some ⟨21, 0, none⟩))] 120 0 0 true,
     .cells [(.string ⟨⟨[66, 79, 83]⟩⟩), (.int .i64 (.ofNat 0)), (.string ⟨⟨[110, 111, 117, 110]⟩⟩), (.int .i64 (.ofNat 0))] 79 0 0 false,
     .cells [(.int .i64 (.ofNat 2)), (.int .i64 (.ofNat 10)), (.map (some 22))] 310 0 0 true,
     .cells [(.pointer (some ⟨23, 0, none⟩)), (.pointer (some ⟨24, 0, none⟩)), (.slice (some ⟨25, 0, none⟩) 6 6), (.pointer (some ⟨26, 0, none⟩)), (.slice (some ⟨27, 0, none⟩) 2 2)] 287 0 0 true,
     .cells [(.pointer (some ⟨28, 0, none⟩)), (.pointer (some ⟨29, 0, none⟩)), (.slice (some ⟨30, 0, none⟩) 9 9), (.pointer (some ⟨31, 0, none⟩)), (.slice (some ⟨32, 0, none⟩) 3 3)] 287 0 0 true,
     .cells [(.int .i64 (.ofNat 2)), (.int .i64 (.ofNat 2)), (.slice (some ⟨33, 0, none⟩) 1 1)] 331 0 0 true,
     .cells [(.int .i64 (.ofNat 3)), (.int .i64 (.ofNat 2)), (.slice (some ⟨34, 0, none⟩) 1 1)] 331 0 0 true,
     .cells [(.int .i64 (.ofNat 3)), (.int .i64 (.ofNat 1)), (.slice (some ⟨35, 0, none⟩) 1 1)] 331 0 0 true,
     .cells [(.int .i64 (.ofNat 3)), (.int .i64 (.ofNat 1)), (.slice (some ⟨36, 0, none⟩) 1 1)] 331 0 0 true,
     .cells [(.int .i64 (.ofNat 3)), (.int .i64 (.ofNat 6)), (.slice (some ⟨37, 0, none⟩) 1 1)] 331 0 0 true,
     .cells [(.int .i64 (.ofNat 3)), (.int .i64 (.ofNat 2)), (.slice (some ⟨38, 0, none⟩) 1 1)] 331 0 0 true,
     .cells [(.int .i64 (.ofNat 3)), (.int .i64 (.ofNat 2)), (.slice (some ⟨39, 0, none⟩) 1 1)] 331 0 0 true,
     .map [] 0,
     .cells [(.int .i64 (.ofNat 15)), (.slice (some ⟨40, 0, none⟩) 1 1), (.slice (some ⟨41, 0, none⟩) 1 1)] 363 0 0 true,
     .cells [(.int .i64 (.ofNat 7)), (.slice (some ⟨42, 0, none⟩) 1 1), (.slice (some ⟨43, 0, none⟩) 1 1)] 363 0 0 true,
     .cells (bs [227, 129, 139, 227, 129, 141]) 5 0 0 false,
     .cells [(.int .i64 (.ofNat 2)), (.int .i64 (.ofNat 1)), (.slice (some ⟨44, 0, none⟩) 1 1)] 331 0 0 true,
     .cells [(.int .i64 (.ofNat 3)), (.int .i64 (.ofNat 6))] 3 0 0 true,
     .cells [(.int .i64 (.ofNat 21)), (.slice (some ⟨45, 0, none⟩) 1 1), (.slice (some ⟨46, 0, none⟩) 1 1)] 363 0 0 true,
     .cells [(.int .i64 (.ofNat 10)), (.slice (some ⟨47, 0, none⟩) 1 1), (.slice (some ⟨48, 0, none⟩) 1 1)] 363 0 0 true,
     .cells (bs [230, 231, 232, 159, 167, 154, 191, 145, 138]) 5 0 0 false,
     .cells [(.int .i64 (.ofNat 3)), (.int .i64 (.ofNat 2)), (.slice (some ⟨49, 0, none⟩) 1 1)] 331 0 0 true,
     .cells [(.int .i64 (.ofNat 7)), (.int .i64 (.ofNat 8)), (.int .i64 (.ofNat 9))] 3 0 0 true,
     .cells [(.int .u64 (.ofNat 8))] 223 0 0 true,
     .cells [(.int .u64 (.ofNat 9))] 223 0 0 true,
     .cells [(.int .u64 (.ofNat 7))] 223 0 0 true,
     .cells [(.int .u64 (.ofNat 7))] 223 0 0 true,
     .cells [(.int .u64 (.ofNat 165780))] 223 0 0 true,
     .cells [(.int .u64 (.ofNat 18))] 223 0 0 true,
     .cells [(.int .u64 (.ofNat 36))] 223 0 0 true,
     .cells [(.int .u64 (.ofNat 5461))] 223 0 0 true,
     .cells [(.int .i64 (.ofNat 0))] 3 0 0 false,
     .cells [(.int .u64 (.ofNat 72))] 223 0 0 true,
     .cells [(.int .i64 (.ofNat 0))] 3 0 0 false,
     .cells [(.int .u64 (.ofNat 2))] 223 0 0 true,
     .cells [(.int .u64 (.ofNat 87389))] 223 0 0 true,
     .cells [(.int .i64 (.ofNat 0))] 3 0 0 false,
     .cells [(.int .u64 (.ofNat 896))] 223 0 0 true,
     .cells [(.int .i64 (.ofNat 0))] 3 0 0 false,
     .cells [(.int .u64 (.ofNat 36))] 223 0 0 true]
  res := (.slice (some ⟨50, 0, none⟩) 3 3)
  outs := [.cells [(.string ⟨⟨[227, 129, 139]⟩⟩), (.string ⟨⟨[231, 167, 145]⟩⟩), (.int .i64 (.ofNat 1)), (.int .i64 (.ofNat 1)), (.int .i64 (.ofNat 20)), (.string ⟨⟨[227, 129, 139]⟩⟩), (.string ⟨⟨[232, 154, 138]⟩⟩), (.int .i64 (.ofNat 1)), (.int .i64 (.ofNat 1)), (.int .i64 (.ofNat 30)), (.string ⟨⟨[227, 129, 139, 227, 129, 141]⟩⟩), (.string ⟨⟨[230, 159, 191]⟩⟩), (.int .i64 (.ofNat 1)), (.int .i64 (.ofNat 1)), (.int .i64 (.ofNat 40))] 81 0 0 false] }
noncomputable def m17 : Memo := {
  gs := []
  args := [(.pointer (some ⟨10, 0, none⟩)), (.string ⟨⟨[227, 129, 141]⟩⟩)]
  ins := [.cells [(.pointer (some ⟨11, 0, none⟩)), (.pointer (some ⟨12, 0, none⟩)), (.slice (some ⟨13, 0, none⟩) 6 6), (.pointer (some ⟨14, 0, none⟩)), (.slice (some ⟨15, 0, none⟩) 2 2)] 287 0 0 true,
     .cells [(.int .i64 (.ofNat 15)), (.slice (some ⟨16, 0, none⟩) 1 1), (.slice (some ⟨17, 0, none⟩) 1 1)] 363 0 0 true,
     .cells [(.int .i64 (.ofNat 7)), (.slice (some ⟨18, 0, none⟩) 1 1), (.slice (some ⟨19, 0, none⟩) 1 1)] 363 0 0 true,
     .cells (bs [227, 129, 139, 227, 129, 141]) 5 0 0 false,
     .cells [(.int .i64 (.ofNat 2)), (.int .i64 (.ofNat 1)), (.slice (some ⟨20, 0, none⟩) 1 1)] 331 0 0 true,
     .cells [(.int .i64 (.ofNat 3)), (.int .i64 (.ofNat 6))] 3 0 0 true,
     .cells [(.int .u64 (.ofNat 5461))] 223 0 0 true,
     .cells [(.int .i64 (.ofNat 0))] 3 0 0 false,
     .cells [(.int .u64 (.ofNat 72))] 223 0 0 true,
     .cells [(.int .i64 (.ofNat 0))] 3 0 0 false,
     .cells [(.int .u64 (.ofNat 2))] 223 0 0 true]
  res := (.slice none 0 0)
  outs := [] }
noncomputable def m18 : Memo := {
  gs := []
  args := [(.pointer (some ⟨10, 0, none⟩)), (.string ⟨⟨[227, 129, 141]⟩⟩)]
  ins := [.cells [(.slice (some ⟨11, 0, none⟩) 2 2), (.pointer (some ⟨12, 0, none⟩)), (.pointer (some ⟨13, 0, none⟩)), (.pointer (some ⟨14, 0, none⟩)), (.pointer (some ⟨15, 0, none⟩)), (.pointer (some ⟨16, 0, none⟩)), (.pointer (some ⟨17, 0, none⟩)), (.pointer (some ⟨18, 0, none⟩)), (.pointer (some ⟨19, 0, none⟩)), (.pointer (some ⟨20, 0, none⟩)), (.pointer (some ⟨21, 0, none⟩))] 120 0 0 true,
     .cells [(.string ⟨⟨[66, 79, 83]⟩⟩), (.int .i64 (.ofNat 0)), (.string ⟨⟨[110, 111, 117, 110]⟩⟩), (.int .i64 (.ofNat 0))] 79 0 0 false,
     .cells [(.int .i64 (.ofNat 2)), (.int .i64 (.ofNat 10)), (.map (some 22))] 310 0 0 true,
     .cells [(.pointer (some ⟨23, 0, none⟩)), (.pointer (some ⟨24, 0, none⟩)), (.slice (some ⟨25, 0, none⟩) 6 6), (.pointer (some ⟨26, 0, none⟩)), (.slice (some ⟨27, 0, none⟩) 2 2)] 287 0 0 true,
     .cells [(.pointer (some ⟨28, 0, none⟩)), (.pointer (some ⟨29, 0, none⟩)), (.slice (some ⟨30, 0, none⟩) 9 9), (.pointer (some ⟨31, 0, none⟩)), (.slice (some ⟨32, 0, none⟩) 3 3)] 287 0 0 true,
     .cells [(.int .i64 (.ofNat 2)), (.int .i64 (.ofNat 2)), (.slice (some ⟨33, 0, none⟩) 1 1)] 331 0 0 true,
     .cells [(.int .i64 (.ofNat 3)), (.int .i64 (.ofNat 2)), (.slice (some ⟨34, 0, none⟩) 1 1)] 331 0 0 true,
     .cells [(.int .i64 (.ofNat 3)), (.int .i64 (.ofNat 1)), (.slice (some ⟨35, 0, none⟩) 1 1)] 331 0 0 true,
     .cells [(.int .i64 (.ofNat 3)), (.int .i64 (.ofNat 1)), (.slice (some ⟨36, 0, none⟩) 1 1)] 331 0 0 true,
     .cells [(.int .i64 (.ofNat 3)), (.int .i64 (.ofNat 6)), (.slice (some ⟨37, 0, none⟩) 1 1)] 331 0 0 true,
     .cells [(.int .i64 (.ofNat 3)), (.int .i64 (.ofNat 2)), (.slice (some ⟨38, 0, none⟩) 1 1)] 331 0 0 true,
     .cells [(.int .i64 (.ofNat 3)), (.int .i64 (.ofNat 2)), (.slice (some ⟨39, 0, none⟩) 1 1)] 331 0 0 true,
     .map [] 0,
     .cells [(.int .i64 (.ofNat 15)), (.slice (some ⟨40, 0, none⟩) 1 1), (.slice (some ⟨41, 0, none⟩) 1 1)] 363 0 0 true,
     .cells [(.int .i64 (.ofNat 7)), (.slice (some ⟨42, 0, none⟩) 1 1), (.slice (some ⟨43, 0, none⟩) 1 1)] 363 0 0 true,
     .cells (bs [227, 129, 139, 227, 129, 141]) 5 0 0 false,
     .cells [(.int .i64 (.ofNat 2)), (.int .i64 (.ofNat 1)), (.slice (some ⟨44, 0, none⟩) 1 1)] 331 0 0 true,
     .cells [(.int .i64 (.ofNat 3)), (.int .i64 (.ofNat 6))] 3 0 0 true,
     .cells [(.int .i64 (.ofNat 21)), (.slice (some ⟨45, 0, none⟩) 1 1), (.slice (some ⟨46, 0, none⟩) 1 1)] 363 0 0 true,
     .cells [(.int .i64 (.ofNat 10)), (.slice (some ⟨47, 0, none⟩) 1 1), (.slice (some ⟨48, 0, none⟩) 1 1)] 363 0 0 true,
     .cells (bs [230, 231, 232, 159, 167, 154, 191, 145, 138]) 5 0 0 false,
     .cells [(.int .i64 (.ofNat 3)), (.int .i64 (.ofNat 2)), (.slice (some ⟨49, 0, none⟩) 1 1)] 331 0 0 true,
     .cells [(.int .i64 (.ofNat 7)), (.int .i64 (.ofNat 8)), (.int .i64 (.ofNat 9))] 3 0 0 true,
     .cells [(.int .u64 (.ofNat 8))] 223 0 0 true,
     .cells [(.int .u64 (.ofNat 9))] 223 0 0 true,
     .cells [(.int .u64 (.ofNat 7))] 223 0 0 true,
     .cells [(.int .u64 (.ofNat 7))] 223 0 0 true,
     .cells [(.int .u64 (.ofNat 165780))] 223 0 0 true,
     .cells [(.int .u64 (.ofNat 18))] 223 0 0 true,
     .cells [(.int .u64 (.ofNat 36))] 223 0 0 true,
     .cells [(.int .u64 (.ofNat 5461))] 223 0 0 true,
     .cells [(.int .i64 (.ofNat 0))] 3 0 0 false,
     .cells [(.int .u64 (.ofNat 72))] 223 0 0 true,
     .cells [(.int .i64 (.ofNat 0))] 3 0 0 false,
     .cells [(.int .u64 (.ofNat 2))] 223 0 0 true,
     .cells [(.int .u64 (.ofNat 87389))] 223 0 0 true,
     .cells [(.int .i64 (.ofNat 0))] 3 0 0 false,
     .cells [(.int .u64 (.ofNat 896))] 223 0 0 true,
     .cells [(.int .i64 (.ofNat 0))] 3 0 0 false,
     .cells [(.int .u64 (.ofNat 36))] 223 0 0 true]
  res := (.slice none 0 0)
  outs := [] }
noncomputable def m19 : Memo := {
  gs := [(0, glob0), (1, glob1)]
  args := [(.pointer (some ⟨10, 0, none⟩)), (.string ⟨⟨[227, 129, 139, 227, 129, 141]⟩⟩), (.slice none 0 0), (.slice none 0 0)]
  ins := [.cells [(.slice (some ⟨11, 0, none⟩) 2 2), (.pointer (some ⟨12, 0, none⟩)), (.pointer (some ⟨13, 0, none⟩)), (.pointer (some ⟨14, 0, none⟩)), (.pointer (some ⟨15, 0, none⟩)), (.pointer (some ⟨16, 0, none⟩)), (.pointer (some ⟨17, 0, none⟩)), (.pointer (some ⟨18, 0, none⟩)), (.pointer (some ⟨19, 0, none⟩)), (.pointer (some ⟨20, 0, none⟩)), (.pointer (some ⟨21, 0, none⟩))] 120 0 0 true,
     .cells [(.string ⟨⟨[66, 79, 83]⟩⟩), (.int .i64 (.ofNat 0)), (.string ⟨⟨[110, 111, 117, 110]⟩⟩), (.int .i64 (.ofNat 0))] 79 0 0 false,
     .cells [(.int .i64 (.ofNat 2)), (.int .i64 (.ofNat 10)), (.map (some 22))] 310 0 0 true,
     .cells [(.pointer (some ⟨23, 0, none⟩)), (.pointer (some ⟨24, 0, none⟩)), (.slice (some ⟨25, 0, none⟩) 6 6), (.pointer (some ⟨26, 0, none⟩)), (.slice (some ⟨27, 0, none⟩) 2 2)] 287 0 0 true,
     .cells [(.pointer (some ⟨28, 0, none⟩)), (.pointer (some ⟨29, 0, none⟩)), (.slice (some ⟨30, 0, none⟩) 9 9), (.pointer (some ⟨31, 0, none⟩)), (.slice (some ⟨32, 0, none⟩) 3 3)] 287 0 0 true,
     .cells [(.int .i64 (.ofNat 2)), (.int .i64 (.ofNat 2)), (.slice (some ⟨33, 0, none⟩) 1 1)] 331 0 0 true,
     .cells [(.int .i64 (.ofNat 3)), (.int .i64 (.ofNat 2)), (.slice (some ⟨34, 0, none⟩) 1 1)] 331 0 0 true,
     .cells [(.int .i64 (.ofNat 3)), (.int .i64 (.ofNat 1)), (.slice (some ⟨35, 0, none⟩) 1 1)] 331 0 0 true,
     .cells [(.int .i64 (.ofNat 3)), (.int .i64 (.ofNat 1)), (.slice (some ⟨36, 0, none⟩) 1 1)] 331 0 0 true,
     .cells [(.int .i64 (.ofNat 3)), (.int .i64 (.ofNat 6)), (.slice (some ⟨37, 0, none⟩) 1 1)] 331 0 0 true,
     .cells [(.int .i64 (.ofNat 3)), (.int .i64 (.ofNat 2)), (.slice (some ⟨38, 0, none⟩) 1 1)] 331 0 0 true,
     .cells [(.int .i64 (.ofNat 3)), (.int .i64 (.ofNat 2)), (.slice (some ⟨39, 0, none⟩) 1 1)] 331 0 0 true,
     .map [] 0,
     .cells [(.int .i64 (.ofNat 15)), (.slice (some ⟨40, 0, none⟩) 1 1), (.slice (some ⟨41, 0, none⟩) 1 1)] 363 0 0 true,
     .cells [(.int .i64 (.ofNat 7)), (.slice (some ⟨42, 0, none⟩) 1 1), (.slice (some ⟨43, 0, none⟩) 1 1)] 363 0 0 true,
     .cells (bs [227, 129, 139, 227, 129, 141]) 5 0 0 false,
     .cells [(.int .i64 (.ofNat 2)), (.int .i64 (.ofNat 1)), (.slice (some ⟨44, 0, none⟩) 1 1)] 331 0 0 true,
     .cells [(.int .i64 (.ofNat 3)), (.int .i64 (.ofNat 6))] 3 0 0 true,
     .cells [(.int .i64 (.ofNat 21)), (.slice (some ⟨45, 0, none⟩) 1 1), (.slice (some ⟨46, 0, none⟩) 1 1)] 363 0 0 true,
     .cells [(.int .i64 (.ofNat 10)), (.slice (some ⟨47, 0, none⟩) 1 1), (.slice (some ⟨48, 0, none⟩) 1 1)] 363 0 0 true,
     .cells (bs [230, 231, 232, 159, 167, 154, 191, 145, 138]) 5 0 0 false,
     .cells [(.int .i64 (.ofNat 3)), (.int .i64 (.ofNat 2)), (.slice (some ⟨49, 0, none⟩) 1 1)] 331 0 0 true,
     .cells [(.int .i64 (.ofNat 7)), (.int .i64 (.ofNat 8)), (.int .i64 (.ofNat 9))] 3 0 0 true,
     .cells [(.int .u64 (.ofNat 8))] 223 0 0 true,
     .cells [(.int .u64 (.ofNat 9))] 223 0 0 true,
     .cells [(.int .u64 (.ofNat 7))] 223 0 0 true,
     .cells [(.int .u64 (.ofNat 7))] 223 0 0 true,
     .cells [(.int .u64 (.ofNat 165780))] 223 0 0 true,
     .cells [(.int .u64 (.ofNat 18))] 223 0 0 true,
     .cells [(.int .u64 (.ofNat 36))] 223 0 0 true,
     .cells [(.int .u64 (.ofNat 5461))] 223 0 0 true,
     .cells [(.int .i64 (.ofNat 0))] 3 0 0 false,
     .cells [(.int .u64 (.ofNat 72))] 223 0 0 true,
     .cells [(.int .i64 (.ofNat 0))] 3 0 0 false,
     .cells [(.int .u64 (.ofNat 2))] 223 0 0 true,
     .cells [(.int .u64 (.ofNat 87389))] 223 0 0 true,
     .cells [(.int .i64 (.ofNat 0))] 3 0 0 false,
     .cells [(.int .u64 (.ofNat 896))] 223 0 0 true,
     .cells [(.int .i64 (.ofNat 0))] 3 0 0 false,
     .cells [(.int .u64 (.ofNat 36))] 223 0 0 true]
  res := (.tuple ⟨[(.pointer (some ⟨50, 0, none⟩)), (.int .i64 (.ofNat 0))]⟩)
  outs := [.cells [(.pointer (some ⟨10, 0, none⟩)), (.string ⟨⟨[227, 129, 139, 227, 129, 141]⟩⟩), (.slice (some ⟨51, 0, none⟩) 5 5), (.slice (some ⟨52, 0, none⟩) 2 2), (.map (some 53))] 139 0 0 true,
     .cells [(.int .i64 (.ofNat 0)), (.int .i64 (.ofNat 2)), (.string ⟨⟨[230, 159, 191]⟩⟩), (.int .i64 (.ofNat 1)), (.int .i64 (.ofNat 1)), (.int .i64 (.ofNat 40)), (.int .i64 (.ofNat 1)), (.int .i64 (.ofNat 0)), (.int .i64 (.ofNat 1)), (.string ⟨⟨[231, 167, 145]⟩⟩), (.int .i64 (.ofNat 1)), (.int .i64 (.ofNat 1)), (.int .i64 (.ofNat 20)), (.int .i64 (.ofNat 1)), (.int .i64 (.ofNat 0)), (.int .i64 (.ofNat 1)), (.string ⟨⟨[232, 154, 138]⟩⟩), (.int .i64 (.ofNat 1)), (.int .i64 (.ofNat 1)), (.int .i64 (.ofNat 30)), (.int .i64 (.ofNat 1)), (.int .i64 (.ofNat 0)), (.int .i64 (.ofNat 1)), (.string ⟨⟨[227, 129, 139]⟩⟩), (.int .i64 (.ofNat 1)), (.int .i64 (.ofNat 1)), (.int .i64 (.ofNat 10000)), (.int .i64 (.ofNat 3)), (.int .i64 (.ofNat 1)), (.int .i64 (.ofNat 2)), (.string ⟨⟨[227, 129, 141]⟩⟩), (.int .i64 (.ofNat 1)), (.int .i64 (.ofNat 1)), (.int .i64 (.ofNat 10000)), (.int .i64 (.ofNat 3))] 141 0 0 false,
     .cells [(.slice (some ⟨54, 0, none⟩) 4 4), (.slice (some ⟨55, 0, none⟩) 1 1)] 93 0 0 true,
     .map [] 0,
     .cells [(.int .i64 (.ofNat 0)), (.int .i64 (.ofNat 1)), (.int .i64 (.ofNat 2)), (.int .i64 (.ofNat 3))] 3 0 0 false,
     .cells [(.int .i64 (.ofNat 4))] 3 0 0 false] }
noncomputable def m20 : Memo := {
  gs := [(0, glob0), (1, glob1), (6, glob6)]
  args := [(.agg ⟨[(.slice (some ⟨10, 0, none⟩) 2 2), (.int .i64 (.ofNat 10)), (.slice none 0 0), (.slice (some ⟨11, 0, none⟩) 3 3), (.string ⟨⟨[227, 129, 139, 227, 129, 141]⟩⟩), (.slice none 0 0), (.slice none 0 0)]⟩)]
  ins := [.cells [(.string ⟨⟨[66, 79, 83]⟩⟩), (.int .i64 (.ofNat 0)), (.string ⟨⟨[110, 111, 117, 110]⟩⟩), (.int .i64 (.ofNat 0))] 79 0 0 true,
     .cells [(.string ⟨⟨[227, 129, 139]⟩⟩), (.string ⟨⟨[232, 154, 138]⟩⟩), (.int .i64 (.ofNat 1)), (.int .i64 (.ofNat 1)), (.int .i64 (.ofNat 30)), (.string ⟨⟨[227, 129, 139]⟩⟩), (.string ⟨⟨[231, 167, 145]⟩⟩), (.int .i64 (.ofNat 1)), (.int .i64 (.ofNat 1)), (.int .i64 (.ofNat 20)), (.string ⟨⟨[227, 129, 139, 227, 129, 141]⟩⟩), (.string ⟨⟨[230, 159, 191]⟩⟩), (.int .i64 (.ofNat 1)), (.int .i64 (.ofNat 1)), (.int .i64 (.ofNat 40))] 81 0 0 true]
  res := (.tuple ⟨[(.pointer (some ⟨12, 0, none⟩)), (.pointer (some ⟨13, 0, none⟩)), (.int .i64 (.ofNat 0))]⟩)
  outs := [.cells [(.slice (some ⟨14, 0, none⟩) 2 2), (.pointer (some ⟨15, 0, none⟩)), (.pointer (some ⟨16, 0, none⟩)), (.pointer (some ⟨17, 0, none⟩)), (.pointer (some ⟨18, 0, none⟩)), (.pointer (some ⟨19, 0, none⟩)), (.pointer (some ⟨20, 0, none⟩)), (.pointer (some ⟨21, 0, none⟩)), (.pointer (some ⟨22, 0, none⟩)), (.pointer (some ⟨23, 0, none⟩)), (.pointer (some ⟨24, 0, none⟩))] 120 0 0 true,
     .cells [(.pointer (some ⟨12, 0, none⟩)), (.string ⟨⟨[227, 129, 139, 227, 129, 141]⟩⟩), (.slice (some ⟨25, 0, none⟩) 5 5), (.slice (some ⟨26, 0, none⟩) 2 2), (.map (some 27))] 139 0 0 true,
     .cells [(.string ⟨⟨[66, 79, 83]⟩⟩), (.int .i64 (.ofNat 0)), (.string ⟨⟨[110, 111, 117, 110]⟩⟩), (.int .i64 (.ofNat 0))] 79 0 0 false,
     .cells [(.int .i64 (.ofNat 2)), (.int .i64 (.ofNat 10)), (.map (some 28))] 310 0 0 true,
     .cells [(.pointer (some ⟨29, 0, none⟩)), (.pointer (some ⟨30, 0, none⟩)), (.slice (some ⟨31, 0, none⟩) 6 6), (.pointer (some ⟨32, 0, none⟩)), (.slice (some ⟨33, 0, none⟩) 2 2)] 287 0 0 true,
     .cells [(.pointer (some ⟨34, 0, none⟩)), (.pointer (some ⟨35, 0, none⟩)), (.slice (some ⟨36, 0, none⟩) 9 9), (.pointer (some ⟨37, 0, none⟩)), (.slice (some ⟨38, 0, none⟩) 3 3)] 287 0 0 true,
     .cells [(.int .i64 (.ofNat 2)), (.int .i64 (.ofNat 2)), (.slice (some ⟨39, 0, none⟩) 1 1)] 331 0 0 true,
     .cells [(.int .i64 (.ofNat 3)), (.int .i64 (.ofNat 2)), (.slice (some ⟨40, 0, none⟩) 1 1)] 331 0 0 true,
     .cells [(.int .i64 (.ofNat 3)), (.int .i64 (.ofNat 1)), (.slice (some ⟨41, 0, none⟩) 1 1)] 331 0 0 true,
     .cells [(.int .i64 (.ofNat 3)), (.int .i64 (.ofNat 1)), (.slice (some ⟨42, 0, none⟩) 1 1)] 331 0 0 true,
     .cells [(.int .i64 (.ofNat 3)), (.int .i64 (.ofNat 6)), (.slice (some ⟨43, 0, none⟩) 1 1)] 331 0 0 true,
     .cells [(.int .i64 (.ofNat 3)), (.int .i64 (.ofNat 2)), (.slice (some ⟨44, 0, none⟩) 1 1)] 331 0 0 true,
     .cells [(.int .i64 (.ofNat 3)), (.int .i64 (.ofNat 2)), (.slice (some ⟨45, 0, none⟩) 1 1)] 331 0 0 true,
     .cells [(.int .i64 (.ofNat 0)), (.int .i64 (.ofNat 2)), (.string ⟨⟨[230, 159, 191]⟩⟩), (.int .i64 (.ofNat 1)), (.int .i64 (.ofNat 1)), (.int .i64 (.ofNat 40)), (.int .i64 (.ofNat 1)), (.int .i64 (.ofNat 0)), (.int .i64 (.ofNat 1)), (.string ⟨⟨[231, 167, 145]⟩⟩), (.int .i64 (.ofNat 1)), (.int .i64 (.ofNat 1)), (.int .i64 (.ofNat 20)), (.int .i64 (.ofNat 1)), (.int .i64 (.ofNat 0)), (.int .i64 (.ofNat 1)), (.string ⟨⟨[232, 154, 138]⟩⟩), (.int .i64 (.ofNat 1)), (.int .i64 (.ofNat 1)), (.int .i64 (.ofNat 30)), (.int .i64 (.ofNat 1)), (.int .i64 (.ofNat 0)), (.int .i64 (.ofNat 1)), (.string ⟨⟨[227, 129, 139]⟩⟩), (.int .i64 (.ofNat 1)), (.int .i64 (.ofNat 1)), (.int .i64 (.ofNat 10000)), (.int .i64 (.ofNat 3)), (.int .i64 (.ofNat 1)), (.int .i64 (.ofNat 2)), (.string ⟨⟨[227, 129, 141]⟩⟩), (.int .i64 (.ofNat 1)), (.int .i64 (.ofNat 1)), (.int .i64 (.ofNat 10000)), (.int .i64 (.ofNat 3))] 141 0 0 false,
     .cells [(.slice (some ⟨46, 0, none⟩) 4 4), (.slice (some ⟨47, 0, none⟩) 1 1)] 93 0 0 true,
     .map [] 0,
     .map [] 0,
     .cells [(.int .i64 (.ofNat 15)), (.slice (some ⟨48, 0, none⟩) 1 1), (.slice (some ⟨49, 0, none⟩) 1 1)] 363 0 0 true,
     .cells [(.int .i64 (.ofNat 7)), (.slice (some ⟨50, 0, none⟩) 1 1), (.slice (some ⟨51, 0, none⟩) 1 1)] 363 0 0 true,
     .cells (bs [227, 129, 139, 227, 129, 141]) 5 0 0 false,
     .cells [(.int .i64 (.ofNat 2)), (.int .i64 (.ofNat 1)), (.slice (some ⟨52, 0, none⟩) 1 1)] 331 0 0 true,
     .cells [(.int .i64 (.ofNat 3)), (.int .i64 (.ofNat 6))] 3 0 0 true,
     .cells [(.int .i64 (.ofNat 21)), (.slice (some ⟨53, 0, none⟩) 1 1), (.slice (some ⟨54, 0, none⟩) 1 1)] 363 0 0 true,
     .cells [(.int .i64 (.ofNat 10)), (.slice (some ⟨55, 0, none⟩) 1 1), (.slice (some ⟨56, 0, none⟩) 1 1)] 363 0 0 true,
     .cells (bs [230, 231, 232, 159, 167, 154, 191, 145, 138]) 5 0 0 false,
     .cells [(.int .i64 (.ofNat 3)), (.int .i64 (.ofNat 2)), (.slice (some ⟨57, 0, none⟩) 1 1)] 331 0 0 true,
     .cells [(.int .i64 (.ofNat 7)), (.int .i64 (.ofNat 8)), (.int .i64 (.ofNat 9))] 3 0 0 true,
     .cells [(.int .u64 (.ofNat 8))] 223 0 0 true,
     .cells [(.int .u64 (.ofNat 9))] 223 0 0 true,
     .cells [(.int .u64 (.ofNat 7))] 223 0 0 true,
     .cells [(.int .u64 (.ofNat 7))] 223 0 0 true,
     .cells [(.int .u64 (.ofNat 165780))] 223 0 0 true,
     .cells [(.int .u64 (.ofNat 18))] 223 0 0 true,
     .cells [(.int .u64 (.ofNat 36))] 223 0 0 true,
     .cells [(.int .i64 (.ofNat 0)), (.int .i64 (.ofNat 1)), (.int .i64 (.ofNat 2)), (.int .i64 (.ofNat 3))] 3 0 0 false,
     .cells [(.int .i64 (.ofNat 4))] 3 0 0 false,
     .cells [(.int .u64 (.ofNat 5461))] 223 0 0 true,
     .cells [(.int .i64 (.ofNat 0))] 3 0 0 false,
     .cells [(.int .u64 (.ofNat 72))] 223 0 0 true,
     .cells [(.int .i64 (.ofNat 0))] 3 0 0 false,
     .cells [(.int .u64 (.ofNat 2))] 223 0 0 true,
     .cells [(.int .u64 (.ofNat 87389))] 223 0 0 true,
     .cells [(.int .i64 (.ofNat 0))] 3 0 0 false,
     .cells [(.int .u64 (.ofNat 896))] 223 0 0 true,
     .cells [(.int .i64 (.ofNat 0))] 3 0 0 false,
     .cells [(.int .u64 (.ofNat 36))] 223 0 0 true] }
noncomputable def m21 : Memo := {
  gs := []
  args := []
  ins := []
  res := (.map (some 10))
  outs := [.map [⟨(.int .i32 (.ofNat 12290)), (.string ⟨⟨[239, 189, 161]⟩⟩), 0⟩, ⟨(.int .i32 (.ofNat 12300)), (.string ⟨⟨[239, 189, 162]⟩⟩), 1⟩, ⟨(.int .i32 (.ofNat 12301)), (.string ⟨⟨[239, 189, 163]⟩⟩), 2⟩, ⟨(.int .i32 (.ofNat 12289)), (.string ⟨⟨[239, 189, 164]⟩⟩), 3⟩, ⟨(.int .i32 (.ofNat 12539)), (.string ⟨⟨[239, 189, 165]⟩⟩), 4⟩, ⟨(.int .i32 (.ofNat 12530)), (.string ⟨⟨[239, 189, 166]⟩⟩), 5⟩, ⟨(.int .i32 (.ofNat 12449)), (.string ⟨⟨[239, 189, 167]⟩⟩), 6⟩, ⟨(.int .i32 (.ofNat 12451)), (.string ⟨⟨[239, 189, 168]⟩⟩), 7⟩, ⟨(.int .i32 (.ofNat 12453)), (.string ⟨⟨[239, 189, 169]⟩⟩), 8⟩, ⟨(.int .i32 (.ofNat 12455)), (.string ⟨⟨[239, 189, 170]⟩⟩), 9⟩, ⟨(.int .i32 (.ofNat 12457)), (.string ⟨⟨[239, 189, 171]⟩⟩), 10⟩, ⟨(.int .i32 (.ofNat 12515)), (.string ⟨⟨[239, 189, 172]⟩⟩), 11⟩, ⟨(.int .i32 (.ofNat 12517)), (.string ⟨⟨[239, 189, 173]⟩⟩), 12⟩, ⟨(.int .i32 (.ofNat 12519)), (.string ⟨⟨[239, 189, 174]⟩⟩), 13⟩, ⟨(.int .i32 (.ofNat 12483)), (.string ⟨⟨[239, 189, 175]⟩⟩), 14⟩, ⟨(.int .i32 (.ofNat 12540)), (.string ⟨⟨[239, 189, 176]⟩⟩), 15⟩, ⟨(.int .i32 (.ofNat 12450)), (.string ⟨⟨[239, 189, 177]⟩⟩), 16⟩, ⟨(.int .i32 (.ofNat 12452)), (.string ⟨⟨[239, 189, 178]⟩⟩), 17⟩, ⟨(.int .i32 (.ofNat 12454)), (.string ⟨⟨[239, 189, 179]⟩⟩), 18⟩, ⟨(.int .i32 (.ofNat 12456)), (.string ⟨⟨[239, 189, 180]⟩⟩), 19⟩, ⟨(.int .i32 (.ofNat 12458)), (.string ⟨⟨[239, 189, 181]⟩⟩), 20⟩, ⟨(.int .i32 (.ofNat 12459)), (.string ⟨⟨[239, 189, 182]⟩⟩), 21⟩, ⟨(.int .i32 (.ofNat 12461)), (.string ⟨⟨[239, 189, 183]⟩⟩), 22⟩, ⟨(.int .i32 (.ofNat 12463)), (.string ⟨⟨[239, 189, 184]⟩⟩), 23⟩, ⟨(.int .i32 (.ofNat 12465)), (.string ⟨⟨[239, 189, 185]⟩⟩), 24⟩, ⟨(.int .i32 (.ofNat 12467)), (.string ⟨⟨[239, 189, 186]⟩⟩), 25⟩, ⟨(.int .i32 (.ofNat 12469)), (.string ⟨⟨[239, 189, 187]⟩⟩), 26⟩, ⟨(.int .i32 (.ofNat 12471)), (.string ⟨⟨[239, 189, 188]⟩⟩), 27⟩, ⟨(.int .i32 (.ofNat 12473)), (.string ⟨⟨[239, 189, 189]⟩⟩), 28⟩, ⟨(.int .i32 (.ofNat 12475)), (.string ⟨⟨[239, 189, 190]⟩⟩), 29⟩, ⟨(.int .i32 (.ofNat 12477)), (.string ⟨⟨[239, 189, 191]⟩⟩), 30⟩, ⟨(.int .i32 (.ofNat 12479)), (.string ⟨⟨[239, 190, 128]⟩⟩), 31⟩, ⟨(.int .i32 (.ofNat 12481)), (.string ⟨⟨[239, 190, 129]⟩⟩), 32⟩, ⟨(.int .i32 (.ofNat 12484)), (.string ⟨⟨[239, 190, 130]⟩⟩), 33⟩, ⟨(.int .i32 (.ofNat 12486)), (.string ⟨⟨[239, 190, 131]⟩⟩), 34⟩, ⟨(.int .i32 (.ofNat 12488)), (.string ⟨⟨[239, 190, 132]⟩⟩), 35⟩, ⟨(.int .i32 (.ofNat 12490)), (.string ⟨⟨[239, 190, 133]⟩⟩), 36⟩, ⟨(.int .i32 (.ofNat 12491)), (.string ⟨⟨[239, 190, 134]⟩⟩), 37⟩, ⟨(.int .i32 (.ofNat 12492)), (.string ⟨⟨[239, 190, 135]⟩⟩), 38⟩, ⟨(.int .i32 (.ofNat 12493)), (.string ⟨⟨[239, 190, 136]⟩⟩), 39⟩, ⟨(.int .i32 (.ofNat 12494)), (.string ⟨⟨[239, 190, 137]⟩⟩), 40⟩, ⟨(.int .i32 (.ofNat 12495)), (.string ⟨⟨[239, 190, 138]⟩⟩), 41⟩, ⟨(.int .i32 (.ofNat 12498)), (.string ⟨⟨[239, 190, 139]⟩⟩), 42⟩, ⟨(.int .i32 (.ofNat 12501)), (.string ⟨⟨[239, 190, 140]⟩⟩), 43⟩, ⟨(.int .i32 (.ofNat 12504)), (.string ⟨⟨[239, 190, 141]⟩⟩), 44⟩, ⟨(.int .i32 (.ofNat 12507)), (.string ⟨⟨[239, 190, 142]⟩⟩), 45⟩, ⟨(.int .i32 (.ofNat 12510)), (.string ⟨⟨[239, 190, 143]⟩⟩), 46⟩, ⟨(.int .i32 (.ofNat 12511)), (.string ⟨⟨[239, 190, 144]⟩⟩), 47⟩, ⟨(.int .i32 (.ofNat 12512)), (.string ⟨⟨[239, 190, 145]⟩⟩), 48⟩, ⟨(.int .i32 (.ofNat 12513)), (.string ⟨⟨[239, 190, 146]⟩⟩), 49⟩, ⟨(.int .i32 (.ofNat 12514)), (.string ⟨⟨[239, 190, 147]⟩⟩), 50⟩, ⟨(.int .i32 (.ofNat 12516)), (.string ⟨⟨[239, 190, 148]⟩⟩), 51⟩, ⟨(.int .i32 (.ofNat 12518)), (.string ⟨⟨[239, 190, 149]⟩⟩), 52⟩, ⟨(.int .i32 (.ofNat 12520)), (.string ⟨⟨[239, 190, 150]⟩⟩), 53⟩, ⟨(.int .i32 (.ofNat 12521)), (.string ⟨⟨[239, 190, 151]⟩⟩), 54⟩, ⟨(.int .i32 (.ofNat 12522)), (.string ⟨⟨[239, 190, 152]⟩⟩), 55⟩, ⟨(.int .i32 (.ofNat 12523)), (.string ⟨⟨[239, 190, 153]⟩⟩), 56⟩, ⟨(.int .i32 (.ofNat 12524)), (.string ⟨⟨[239, 190, 154]⟩⟩), 57⟩, ⟨(.int .i32 (.ofNat 12525)), (.string ⟨⟨[239, 190, 155]⟩⟩), 58⟩, ⟨(.int .i32 (.ofNat 12527)), (.string ⟨⟨[239, 190, 156]⟩⟩), 59⟩, ⟨(.int .i32 (.ofNat 12531)), (.string ⟨⟨[239, 190, 157]⟩⟩), 60⟩, ⟨(.int .i32 (.ofNat 12532)), (.string ⟨⟨[239, 189, 179, 239, 190, 158]⟩⟩), 61⟩, ⟨(.int .i32 (.ofNat 12460)), (.string ⟨⟨[239, 189, 182, 239, 190, 158]⟩⟩), 62⟩, ⟨(.int .i32 (.ofNat 12462)), (.string ⟨⟨[239, 189, 183, 239, 190, 158]⟩⟩), 63⟩, ⟨(.int .i32 (.ofNat 12464)), (.string ⟨⟨[239, 189, 184, 239, 190, 158]⟩⟩), 64⟩, ⟨(.int .i32 (.ofNat 12466)), (.string ⟨⟨[239, 189, 185, 239, 190, 158]⟩⟩), 65⟩, ⟨(.int .i32 (.ofNat 12468)), (.string ⟨⟨[239, 189, 186, 239, 190, 158]⟩⟩), 66⟩, ⟨(.int .i32 (.ofNat 12470)), (.string ⟨⟨[239, 189, 187, 239, 190, 158]⟩⟩), 67⟩, ⟨(.int .i32 (.ofNat 12472)), (.string ⟨⟨[239, 189, 188, 239, 190, 158]⟩⟩), 68⟩, ⟨(.int .i32 (.ofNat 12474)), (.string ⟨⟨[239, 189, 189, 239, 190, 158]⟩⟩), 69⟩, ⟨(.int .i32 (.ofNat 12476)), (.string ⟨⟨[239, 189, 190, 239, 190, 158]⟩⟩), 70⟩, ⟨(.int .i32 (.ofNat 12478)), (.string ⟨⟨[239, 189, 191, 239, 190, 158]⟩⟩), 71⟩, ⟨(.int .i32 (.ofNat 12480)), (.string ⟨⟨[239, 190, 128, 239, 190, 158]⟩⟩), 72⟩, ⟨(.int .i32 (.ofNat 12482)), (.string ⟨⟨[239, 190, 129, 239, 190, 158]⟩⟩), 73⟩, ⟨(.int .i32 (.ofNat 12485)), (.string ⟨⟨[239, 190, 130, 239, 190, 158]⟩⟩), 74⟩, ⟨(.int .i32 (.ofNat 12487)), (.string ⟨⟨[239, 190, 131, 239, 190, 158]⟩⟩), 75⟩, ⟨(.int .i32 (.ofNat 12489)), (.string ⟨⟨[239, 190, 132, 239, 190, 158]⟩⟩), 76⟩, ⟨(.int .i32 (.ofNat 12496)), (.string ⟨⟨[239, 190, 138, 239, 190, 158]⟩⟩), 77⟩, ⟨(.int .i32 (.ofNat 12499)), (.string ⟨⟨[239, 190, 139, 239, 190, 158]⟩⟩), 78⟩, ⟨(.int .i32 (.ofNat 12502)), (.string ⟨⟨[239, 190, 140, 239, 190, 158]⟩⟩), 79⟩, ⟨(.int .i32 (.ofNat 12505)), (.string ⟨⟨[239, 190, 141, 239, 190, 158]⟩⟩), 80⟩, ⟨(.int .i32 (.ofNat 12508)), (.string ⟨⟨[239, 190, 142, 239, 190, 158]⟩⟩), 81⟩, ⟨(.int .i32 (.ofNat 12497)), (.string ⟨⟨[239, 190, 138, 239, 190, 159]⟩⟩), 82⟩, ⟨(.int .i32 (.ofNat 12500)), (.string ⟨⟨[239, 190, 139, 239, 190, 159]⟩⟩), 83⟩, ⟨(.int .i32 (.ofNat 12503)), (.string ⟨⟨[239, 190, 140, 239, 190, 159]⟩⟩), 84⟩, ⟨(.int .i32 (.ofNat 12506)), (.string ⟨⟨[239, 190, 141, 239, 190, 159]⟩⟩), 85⟩, ⟨(.int .i32 (.ofNat 12509)), (.string ⟨⟨[239, 190, 142, 239, 190, 159]⟩⟩), 86⟩] 87] }
noncomputable def m22 : Memo := {
  gs := [(0, glob0), (1, glob1)]
  args := [(.pointer (some ⟨10, 0, none⟩)), (.agg ⟨[(.int .i64 (.ofNat 0)), (.int .i64 (.ofNat 2))]⟩), (.int .i64 (.ofNat 0)), (.int .i64 (.ofNat 0)), (.int .i64 (.ofNat 1)), (.int .i64 (.ofNat 60))]
  ins := [.cells [(.pointer (some ⟨11, 0, none⟩)), (.string ⟨⟨[227, 129, 139, 227, 129, 141]⟩⟩), (.slice (some ⟨12, 0, none⟩) 5 5), (.slice (some ⟨13, 0, none⟩) 2 2), (.map (some 14))] 139 0 0 true,
     .cells [(.slice (some ⟨15, 0, none⟩) 2 2), (.pointer (some ⟨16, 0, none⟩)), (.pointer (some ⟨17, 0, none⟩)), (.pointer (some ⟨18, 0, none⟩)), (.pointer (some ⟨19, 0, none⟩)), (.pointer (some ⟨20, 0, none⟩)), (.pointer (some ⟨21, 0, none⟩)), (.pointer (some ⟨22, 0, none⟩)), (.pointer (some ⟨23, 0, none⟩)), (.pointer (some ⟨24, 0, none⟩)), (.pointer (some ⟨25, 0, none⟩))] 120 0 0 true,
     .cells [(.int .i64 (.ofNat 0)), (.int .i64 (.ofNat 2)), (.string ⟨⟨[230, 159, 191]⟩⟩), (.int .i64 (.ofNat 1)), (.int .i64 (.ofNat 1)), (.int .i64 (.ofNat 40)), (.int .i64 (.ofNat 1)), (.int .i64 (.ofNat 0)), (.int .i64 (.ofNat 1)), (.string ⟨⟨[231, 167, 145]⟩⟩), (.int .i64 (.ofNat 1)), (.int .i64 (.ofNat 1)), (.int .i64 (.ofNat 20)), (.int .i64 (.ofNat 1)), (.int .i64 (.ofNat 0)), (.int .i64 (.ofNat 1)), (.string ⟨⟨[232, 154, 138]⟩⟩), (.int .i64 (.ofNat 1)), (.int .i64 (.ofNat 1)), (.int .i64 (.ofNat 30)), (.int .i64 (.ofNat 1)), (.int .i64 (.ofNat 0)), (.int .i64 (.ofNat 1)), (.string ⟨⟨[227, 129, 139]⟩⟩), (.int .i64 (.ofNat 1)), (.int .i64 (.ofNat 1)), (.int .i64 (.ofNat 10000)), (.int .i64 (.ofNat 3)), (.int .i64 (.ofNat 1)), (.int .i64 (.ofNat 2)), (.string ⟨⟨[227, 129, 141]⟩⟩), (.int .i64 (.ofNat 1)), (.int .i64 (.ofNat 1)), (.int .i64 (.ofNat 10000)), (.int .i64 (.ofNat 3))] 141 0 0 false,
     .cells [(.slice (some ⟨26, 0, none⟩) 4 4), (.slice (some ⟨27, 0, none⟩) 1 1)] 93 0 0 true,
     .map [] 0,
     .cells [(.string ⟨⟨[66, 79, 83]⟩⟩), (.int .i64 (.ofNat 0)), (.string ⟨⟨[110, 111, 117, 110]⟩⟩), (.int .i64 (.ofNat 0))] 79 0 0 false,
     .cells [(.int .i64 (.ofNat 2)), (.int .i64 (.ofNat 10)), (.map (some 28))] 310 0 0 true,
     .cells [(.pointer (some ⟨29, 0, none⟩)), (.pointer (some ⟨30, 0, none⟩)), (.slice (some ⟨31, 0, none⟩) 6 6), (.pointer (some ⟨32, 0, none⟩)), (.slice (some ⟨33, 0, none⟩) 2 2)] 287 0 0 true,
     .cells [(.pointer (some ⟨34, 0, none⟩)), (.pointer (some ⟨35, 0, none⟩)), (.slice (some ⟨36, 0, none⟩) 9 9), (.pointer (some ⟨37, 0, none⟩)), (.slice (some ⟨38, 0, none⟩) 3 3)] 287 0 0 true,
     .cells [(.int .i64 (.ofNat 2)), (.int .i64 (.ofNat 2)), (.slice (some ⟨39, 0, none⟩) 1 1)] 331 0 0 true,
     .cells [(.int .i64 (.ofNat 3)), (.int .i64 (.ofNat 2)), (.slice (some ⟨40, 0, none⟩) 1 1)] 331 0 0 true,
     .cells [(.int .i64 (.ofNat 3)), (.int .i64 (.ofNat 1)), (.slice (some ⟨41, 0, none⟩) 1 1)] 331 0 0 true,
     .cells [(.int .i64 (.ofNat 3)), (.int .i64 (.ofNat 1)), (.slice (some ⟨42, 0, none⟩) 1 1)] 331 0 0 true,
     .cells [(.int .i64 (.ofNat 3)), (.int .i64 (.ofNat 6)), (.slice (some ⟨43, 0, none⟩) 1 1)] 331 0 0 true,
     .cells [(.int .i64 (.ofNat 3)), (.int .i64 (.ofNat 2)), (.slice (some ⟨44, 0, none⟩) 1 1)] 331 0 0 true,
     .cells [(.int .i64 (.ofNat 3)), (.int .i64 (.ofNat 2)), (.slice (some ⟨45, 0, none⟩) 1 1)] 331 0 0 true,
     .cells [(.int .i64 (.ofNat 0)), (.int .i64 (.ofNat 1)), (.int .i64 (.ofNat 2)), (.int .i64 (.ofNat 3))] 3 0 0 false,
     .cells [(.int .i64 (.ofNat 4))] 3 0 0 false,
     .map [] 0,
     .cells [(.int .i64 (.ofNat 15)), (.slice (some ⟨46, 0, none⟩) 1 1), (.slice (some ⟨47, 0, none⟩) 1 1)] 363 0 0 true,
     .cells [(.int .i64 (.ofNat 7)), (.slice (some ⟨48, 0, none⟩) 1 1), (.slice (some ⟨49, 0, none⟩) 1 1)] 363 0 0 true,
     .cells (bs [227, 129, 139, 227, 129, 141]) 5 0 0 false,
     .cells [(.int .i64 (.ofNat 2)), (.int .i64 (.ofNat 1)), (.slice (some ⟨50, 0, none⟩) 1 1)] 331 0 0 true,
     .cells [(.int .i64 (.ofNat 3)), (.int .i64 (.ofNat 6))] 3 0 0 true,
     .cells [(.int .i64 (.ofNat 21)), (.slice (some ⟨51, 0, none⟩) 1 1), (.slice (some ⟨52, 0, none⟩) 1 1)] 363 0 0 true,
     .cells [(.int .i64 (.ofNat 10)), (.slice (some ⟨53, 0, none⟩) 1 1), (.slice (some ⟨54, 0, none⟩) 1 1)] 363 0 0 true,
     .cells (bs [230, 231, 232, 159, 167, 154, 191, 145, 138]) 5 0 0 false,
     .cells [(.int .i64 (.ofNat 3)), (.int .i64 (.ofNat 2)), (.slice (some ⟨55, 0, none⟩) 1 1)] 331 0 0 true,
     .cells [(.int .i64 (.ofNat 7)), (.int .i64 (.ofNat 8)), (.int .i64 (.ofNat 9))] 3 0 0 true,
     .cells [(.int .u64 (.ofNat 8))] 223 0 0 true,
     .cells [(.int .u64 (.ofNat 9))] 223 0 0 true,
     .cells [(.int .u64 (.ofNat 7))] 223 0 0 true,
     .cells [(.int .u64 (.ofNat 7))] 223 0 0 true,
     .cells [(.int .u64 (.ofNat 165780))] 223 0 0 true,
     .cells [(.int .u64 (.ofNat 18))] 223 0 0 true,
     .cells [(.int .u64 (.ofNat 36))] 223 0 0 true,
     .cells [(.int .u64 (.ofNat 5461))] 223 0 0 true,
     .cells [(.int .i64 (.ofNat 0))] 3 0 0 false,
     .cells [(.int .u64 (.ofNat 72))] 223 0 0 true,
     .cells [(.int .i64 (.ofNat 0))] 3 0 0 false,
     .cells [(.int .u64 (.ofNat 2))] 223 0 0 true,
     .cells [(.int .u64 (.ofNat 87389))] 223 0 0 true,
     .cells [(.int .i64 (.ofNat 0))] 3 0 0 false,
     .cells [(.int .u64 (.ofNat 896))] 223 0 0 true,
     .cells [(.int .i64 (.ofNat 0))] 3 0 0 false,
     .cells [(.int .u64 (.ofNat 36))] 223 0 0 true]
  res := (.slice (some ⟨56, 0, none⟩) 6 6)
  outs := [.cells [(.string ⟨⟨[230, 159, 191]⟩⟩), (.int .i64 (.ofNat 1)), (.string ⟨⟨[231, 167, 145, 227, 129, 141]⟩⟩), (.int .i64 (.ofNat 1)), (.string ⟨⟨[232, 154, 138, 227, 129, 141]⟩⟩), (.int .i64 (.ofNat 1)), (.string ⟨⟨[227, 129, 139, 227, 129, 141]⟩⟩), (.int .i64 (.ofNat 1)), (.string ⟨⟨[227, 130, 171, 227, 130, 173]⟩⟩), (.int .i64 (.ofNat 3)), (.string ⟨⟨[239, 189, 182, 239, 189, 183]⟩⟩), (.int .i64 (.ofNat 3))] 50 0 0 false] }
noncomputable def m23 : Memo := {
  gs := [(0, glob0), (1, glob1), (6, glob6)]
  args := []
  ins := []
  res := (.bool true)
  outs := [] }
end Go.Ev
