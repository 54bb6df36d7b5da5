/-
  Runs by themselves: what goes in and what comes out. Printed by gen_memo.py out of runs of the abstract machine; nothing here is proved.
-/
import Derived.Test.YtebnellffbcgdaaGreatDoorA
set_option linter.unusedVariables false
set_option linter.unusedSimpArgs false
set_option linter.unusedSectionVars false
namespace Go.Ev
open Go
noncomputable def glob0 : CB := .cells (bs [240, 240, 240, 240, 240, 240, 240, 240, 240, 240, 240, 240, 240, 240, 240, 240, 240, 240, 240, 240, 240, 240, 240, 240, 240, 240, 240, 240, 240, 240, 240, 240, 240, 240, 240, 240, 240, 240, 240, 240, 240, 240, 240, 240, 240, 240, 240, 240, 240, 240, 240, 240, 240, 240, 240, 240, 240, 240, 240, 240, 240, 240, 240, 240, 240, 240, 240, 240, 240, 240, 240, 240, 240, 240, 240, 240, 240, 240, 240, 240, 240, 240, 240, 240, 240, 240, 240, 240, 240, 240, 240, 240, 240, 240, 240, 240, 240, 240, 240, 240, 240, 240, 240, 240, 240, 240, 240, 240, 240, 240, 240, 240, 240, 240, 240, 240, 240, 240, 240, 240, 240, 240, 240, 240, 240, 240, 240, 240, 241, 241, 241, 241, 241, 241, 241, 241, 241, 241, 241, 241, 241, 241, 241, 241, 241, 241, 241, 241, 241, 241, 241, 241, 241, 241, 241, 241, 241, 241, 241, 241, 241, 241, 241, 241, 241, 241, 241, 241, 241, 241, 241, 241, 241, 241, 241, 241, 241, 241, 241, 241, 241, 241, 241, 241, 241, 241, 241, 241, 241, 241, 241, 241, 241, 241, 2, 2, 2, 2, 2, 2, 2, 2, 2, 2, 2, 2, 2, 2, 2, 2, 2, 2, 2, 2, 2, 2, 2, 2, 2, 2, 2, 2, 2, 2, 19, 3, 3, 3, 3, 3, 3, 3, 3, 3, 3, 3, 3, 35, 3, 3, 52, 4, 4, 4, 68, 241, 241, 241, 241, 241, 241, 241, 241, 241, 241, 241]) 261 0 0 true
noncomputable def glob1 : CB := .cells (bs [128, 191, 160, 191, 128, 159, 144, 191, 128, 143, 0, 0, 0, 0, 0, 0, 0, 0, 0, 0, 0, 0, 0, 0, 0, 0, 0, 0, 0, 0, 0, 0]) 264 0 0 true
noncomputable def glob6 : CB := .cells [(.int .u32 (.ofNat 0)), (.int .u32 (.ofNat 498536548)), (.int .u32 (.ofNat 997073096)), (.int .u32 (.ofNat 651767980)), (.int .u32 (.ofNat 1994146192)), (.int .u32 (.ofNat 1802195444)), (.int .u32 (.ofNat 1303535960)), (.int .u32 (.ofNat 1342533948)), (.int .u32 (.ofNat 3988292384)), (.int .u32 (.ofNat 4027552580)), (.int .u32 (.ofNat 3604390888)), (.int .u32 (.ofNat 3412177804)), (.int .u32 (.ofNat 2607071920)), (.int .u32 (.ofNat 2262029012)), (.int .u32 (.ofNat 2685067896)), (.int .u32 (.ofNat 3183342108))] 423 0 0 true
noncomputable def m0 : Memo := {
  gs := [(6, glob6)]
  args := [(.slice (some ⟨10, 0, none⟩) 266 266)]
  ins := [.cells (bs [72, 78, 75, 49, 11, 3, 112, 111, 115, 12, 6, 109, 97, 116, 114, 105, 120, 3, 8, 114, 101, 97, 100, 105, 110, 103, 115, 60, 5, 102, 105, 114, 115, 116, 6, 8, 115, 117, 114, 102, 97, 99, 101, 115, 63, 7, 115, 117, 114, 102, 97, 99, 101, 6, 4, 108, 101, 102, 116, 6, 5, 114, 105, 103, 104, 116, 6, 4, 99, 111, 115, 116, 8, 5, 111, 114, 100, 101, 114, 6, 2, 97, 116, 6, 2, 3, 66, 79, 83, 0, 4, 110, 111, 117, 110, 0, 2, 10, 0, 16, 0, 0, 0, 15, 0, 0, 0, 85, 21, 0, 0, 0, 0, 0, 0, 0, 0, 0, 0, 6, 0, 0, 0, 227, 129, 139, 227, 129, 141, 16, 0, 0, 0, 7, 0, 0, 0, 72, 0, 0, 0, 0, 0, 0, 0, 0, 0, 0, 0, 6, 0, 0, 0, 2, 0, 0, 0, 1, 2, 2, 0, 0, 0, 2, 8, 16, 0, 0, 0, 21, 0, 0, 0, 93, 85, 1, 0, 0, 0, 0, 0, 0, 0, 0, 0, 9, 0, 0, 0, 230, 231, 232, 159, 167, 154, 191, 145, 138, 16, 0, 0, 0, 10, 0, 0, 0, 128, 3, 0, 0, 0, 0, 0, 0, 0, 0, 0, 0, 6, 0, 0, 0, 3, 0, 0, 0, 2, 36, 3, 0, 0, 0, 2, 9, 3, 0, 0, 0, 1, 7, 3, 0, 0, 0, 1, 7, 3, 0, 0, 0, 6, 148, 135, 2, 3, 0, 0, 0, 2, 18, 3, 0, 0, 0, 2, 36]) 5 0 0 false]
  res := (.int .u32 (.ofNat 1932450347))
  outs := [] }
noncomputable def m1 : Memo := {
  gs := [(6, glob6)]
  args := [(.slice (some ⟨10, 0, none⟩) 11 11)]
  ins := [.cells [(.string ⟨⟨[112, 111, 115]⟩⟩), (.slice (some ⟨11, 0, none⟩) 12 12), (.string ⟨⟨[109, 97, 116, 114, 105, 120]⟩⟩), (.slice (some ⟨12, 0, none⟩) 3 3), (.string ⟨⟨[114, 101, 97, 100, 105, 110, 103, 115]⟩⟩), (.slice (some ⟨13, 0, none⟩) 60 60), (.string ⟨⟨[102, 105, 114, 115, 116]⟩⟩), (.slice (some ⟨14, 0, none⟩) 6 6), (.string ⟨⟨[115, 117, 114, 102, 97, 99, 101, 115]⟩⟩), (.slice (some ⟨15, 0, none⟩) 63 63), (.string ⟨⟨[115, 117, 114, 102, 97, 99, 101]⟩⟩), (.slice (some ⟨16, 0, none⟩) 6 6), (.string ⟨⟨[108, 101, 102, 116]⟩⟩), (.slice (some ⟨17, 0, none⟩) 6 6), (.string ⟨⟨[114, 105, 103, 104, 116]⟩⟩), (.slice (some ⟨18, 0, none⟩) 6 6), (.string ⟨⟨[99, 111, 115, 116]⟩⟩), (.slice (some ⟨19, 0, none⟩) 8 8), (.string ⟨⟨[111, 114, 100, 101, 114]⟩⟩), (.slice (some ⟨20, 0, none⟩) 6 6), (.string ⟨⟨[97, 116]⟩⟩), (.slice (some ⟨21, 0, none⟩) 6 6)] 216 0 0 true,
     .cells (bs [2, 3, 66, 79, 83, 0, 4, 110, 111, 117, 110, 0]) 5 0 0 false,
     .cells (bs [2, 10, 0]) 5 0 0 false,
     .cells (bs [16, 0, 0, 0, 15, 0, 0, 0, 85, 21, 0, 0, 0, 0, 0, 0, 0, 0, 0, 0, 6, 0, 0, 0, 227, 129, 139, 227, 129, 141, 16, 0, 0, 0, 7, 0, 0, 0, 72, 0, 0, 0, 0, 0, 0, 0, 0, 0, 0, 0, 6, 0, 0, 0, 2, 0, 0, 0, 1, 2]) 5 0 0 false,
     .cells (bs [2, 0, 0, 0, 2, 8]) 5 0 0 false,
     .cells (bs [16, 0, 0, 0, 21, 0, 0, 0, 93, 85, 1, 0, 0, 0, 0, 0, 0, 0, 0, 0, 9, 0, 0, 0, 230, 231, 232, 159, 167, 154, 191, 145, 138, 16, 0, 0, 0, 10, 0, 0, 0, 128, 3, 0, 0, 0, 0, 0, 0, 0, 0, 0, 0, 6, 0, 0, 0, 3, 0, 0, 0, 2, 36]) 5 0 0 false,
     .cells (bs [3, 0, 0, 0, 2, 9]) 5 0 0 false,
     .cells (bs [3, 0, 0, 0, 1, 7]) 5 0 0 false,
     .cells (bs [3, 0, 0, 0, 1, 7]) 5 0 0 false,
     .cells (bs [3, 0, 0, 0, 6, 148, 135, 2]) 5 0 0 false,
     .cells (bs [3, 0, 0, 0, 2, 18]) 5 0 0 false,
     .cells (bs [3, 0, 0, 0, 2, 36]) 5 0 0 false]
  res := (.tuple ⟨[(.slice (some ⟨22, 0, none⟩) 270 270), (.int .i64 (.ofNat 0))]⟩)
  outs := [.cells (bs [72, 78, 75, 49, 11, 3, 112, 111, 115, 12, 6, 109, 97, 116, 114, 105, 120, 3, 8, 114, 101, 97, 100, 105, 110, 103, 115, 60, 5, 102, 105, 114, 115, 116, 6, 8, 115, 117, 114, 102, 97, 99, 101, 115, 63, 7, 115, 117, 114, 102, 97, 99, 101, 6, 4, 108, 101, 102, 116, 6, 5, 114, 105, 103, 104, 116, 6, 4, 99, 111, 115, 116, 8, 5, 111, 114, 100, 101, 114, 6, 2, 97, 116, 6, 2, 3, 66, 79, 83, 0, 4, 110, 111, 117, 110, 0, 2, 10, 0, 16, 0, 0, 0, 15, 0, 0, 0, 85, 21, 0, 0, 0, 0, 0, 0, 0, 0, 0, 0, 6, 0, 0, 0, 227, 129, 139, 227, 129, 141, 16, 0, 0, 0, 7, 0, 0, 0, 72, 0, 0, 0, 0, 0, 0, 0, 0, 0, 0, 0, 6, 0, 0, 0, 2, 0, 0, 0, 1, 2, 2, 0, 0, 0, 2, 8, 16, 0, 0, 0, 21, 0, 0, 0, 93, 85, 1, 0, 0, 0, 0, 0, 0, 0, 0, 0, 9, 0, 0, 0, 230, 231, 232, 159, 167, 154, 191, 145, 138, 16, 0, 0, 0, 10, 0, 0, 0, 128, 3, 0, 0, 0, 0, 0, 0, 0, 0, 0, 0, 6, 0, 0, 0, 3, 0, 0, 0, 2, 36, 3, 0, 0, 0, 2, 9, 3, 0, 0, 0, 1, 7, 3, 0, 0, 0, 1, 7, 3, 0, 0, 0, 6, 148, 135, 2, 3, 0, 0, 0, 2, 18, 3, 0, 0, 0, 2, 36, 43, 218, 46, 115]) 5 0 0 false] }
noncomputable def m2 : Memo := {
  gs := [(0, glob0), (1, glob1), (6, glob6)]
  args := [(.slice (some ⟨10, 0, none⟩) 2 2), (.pointer (some ⟨11, 0, none⟩)), (.slice (some ⟨12, 0, none⟩) 3 3)]
  ins := [.cells [(.string ⟨⟨[66, 79, 83]⟩⟩), (.int .i64 (.ofNat 0)), (.string ⟨⟨[110, 111, 117, 110]⟩⟩), (.int .i64 (.ofNat 0))] 67 0 0 true,
     .cells [(.int .i64 (.ofNat 2)), (.int .i64 (.ofNat 10)), (.map (some 13))] 311 0 0 true,
     .cells [(.string ⟨⟨[227, 129, 139]⟩⟩), (.string ⟨⟨[232, 154, 138]⟩⟩), (.int .i64 (.ofNat 1)), (.int .i64 (.ofNat 1)), (.int .i64 (.ofNat 30)), (.string ⟨⟨[227, 129, 139]⟩⟩), (.string ⟨⟨[231, 167, 145]⟩⟩), (.int .i64 (.ofNat 1)), (.int .i64 (.ofNat 1)), (.int .i64 (.ofNat 20)), (.string ⟨⟨[227, 129, 139, 227, 129, 141]⟩⟩), (.string ⟨⟨[230, 159, 191]⟩⟩), (.int .i64 (.ofNat 1)), (.int .i64 (.ofNat 1)), (.int .i64 (.ofNat 40))] 69 0 0 true,
     .map [] 0]
  res := (.tuple ⟨[(.slice (some ⟨14, 0, none⟩) 270 270), (.int .i64 (.ofNat 0))]⟩)
  outs := [.cells (bs [72, 78, 75, 49, 11, 3, 112, 111, 115, 12, 6, 109, 97, 116, 114, 105, 120, 3, 8, 114, 101, 97, 100, 105, 110, 103, 115, 60, 5, 102, 105, 114, 115, 116, 6, 8, 115, 117, 114, 102, 97, 99, 101, 115, 63, 7, 115, 117, 114, 102, 97, 99, 101, 6, 4, 108, 101, 102, 116, 6, 5, 114, 105, 103, 104, 116, 6, 4, 99, 111, 115, 116, 8, 5, 111, 114, 100, 101, 114, 6, 2, 97, 116, 6, 2, 3, 66, 79, 83, 0, 4, 110, 111, 117, 110, 0, 2, 10, 0, 16, 0, 0, 0, 15, 0, 0, 0, 85, 21, 0, 0, 0, 0, 0, 0, 0, 0, 0, 0, 6, 0, 0, 0, 227, 129, 139, 227, 129, 141, 16, 0, 0, 0, 7, 0, 0, 0, 72, 0, 0, 0, 0, 0, 0, 0, 0, 0, 0, 0, 6, 0, 0, 0, 2, 0, 0, 0, 1, 2, 2, 0, 0, 0, 2, 8, 16, 0, 0, 0, 21, 0, 0, 0, 93, 85, 1, 0, 0, 0, 0, 0, 0, 0, 0, 0, 9, 0, 0, 0, 230, 231, 232, 159, 167, 154, 191, 145, 138, 16, 0, 0, 0, 10, 0, 0, 0, 128, 3, 0, 0, 0, 0, 0, 0, 0, 0, 0, 0, 6, 0, 0, 0, 3, 0, 0, 0, 2, 36, 3, 0, 0, 0, 2, 9, 3, 0, 0, 0, 1, 7, 3, 0, 0, 0, 1, 7, 3, 0, 0, 0, 6, 148, 135, 2, 3, 0, 0, 0, 2, 18, 3, 0, 0, 0, 2, 36, 43, 218, 46, 115]) 5 0 0 false] }
noncomputable def m3 : Memo := {
  gs := [(0, glob0), (1, glob1), (6, glob6)]
  args := [(.agg ⟨[(.slice (some ⟨10, 0, none⟩) 2 2), (.int .i64 (.ofNat 10)), (.slice none 0 0), (.slice (some ⟨11, 0, none⟩) 3 3)]⟩)]
  ins := [.cells [(.string ⟨⟨[66, 79, 83]⟩⟩), (.int .i64 (.ofNat 0)), (.string ⟨⟨[110, 111, 117, 110]⟩⟩), (.int .i64 (.ofNat 0))] 67 0 0 true,
     .cells [(.string ⟨⟨[227, 129, 139]⟩⟩), (.string ⟨⟨[232, 154, 138]⟩⟩), (.int .i64 (.ofNat 1)), (.int .i64 (.ofNat 1)), (.int .i64 (.ofNat 30)), (.string ⟨⟨[227, 129, 139]⟩⟩), (.string ⟨⟨[231, 167, 145]⟩⟩), (.int .i64 (.ofNat 1)), (.int .i64 (.ofNat 1)), (.int .i64 (.ofNat 20)), (.string ⟨⟨[227, 129, 139, 227, 129, 141]⟩⟩), (.string ⟨⟨[230, 159, 191]⟩⟩), (.int .i64 (.ofNat 1)), (.int .i64 (.ofNat 1)), (.int .i64 (.ofNat 40))] 69 0 0 true]
  res := (.tuple ⟨[(.slice (some ⟨12, 0, none⟩) 270 270), (.int .i64 (.ofNat 0))]⟩)
  outs := [.cells (bs [72, 78, 75, 49, 11, 3, 112, 111, 115, 12, 6, 109, 97, 116, 114, 105, 120, 3, 8, 114, 101, 97, 100, 105, 110, 103, 115, 60, 5, 102, 105, 114, 115, 116, 6, 8, 115, 117, 114, 102, 97, 99, 101, 115, 63, 7, 115, 117, 114, 102, 97, 99, 101, 6, 4, 108, 101, 102, 116, 6, 5, 114, 105, 103, 104, 116, 6, 4, 99, 111, 115, 116, 8, 5, 111, 114, 100, 101, 114, 6, 2, 97, 116, 6, 2, 3, 66, 79, 83, 0, 4, 110, 111, 117, 110, 0, 2, 10, 0, 16, 0, 0, 0, 15, 0, 0, 0, 85, 21, 0, 0, 0, 0, 0, 0, 0, 0, 0, 0, 6, 0, 0, 0, 227, 129, 139, 227, 129, 141, 16, 0, 0, 0, 7, 0, 0, 0, 72, 0, 0, 0, 0, 0, 0, 0, 0, 0, 0, 0, 6, 0, 0, 0, 2, 0, 0, 0, 1, 2, 2, 0, 0, 0, 2, 8, 16, 0, 0, 0, 21, 0, 0, 0, 93, 85, 1, 0, 0, 0, 0, 0, 0, 0, 0, 0, 9, 0, 0, 0, 230, 231, 232, 159, 167, 154, 191, 145, 138, 16, 0, 0, 0, 10, 0, 0, 0, 128, 3, 0, 0, 0, 0, 0, 0, 0, 0, 0, 0, 6, 0, 0, 0, 3, 0, 0, 0, 2, 36, 3, 0, 0, 0, 2, 9, 3, 0, 0, 0, 1, 7, 3, 0, 0, 0, 1, 7, 3, 0, 0, 0, 6, 148, 135, 2, 3, 0, 0, 0, 2, 18, 3, 0, 0, 0, 2, 36, 43, 218, 46, 115]) 5 0 0 false] }
noncomputable def m4 : Memo := {
  gs := [(6, glob6)]
  args := [(.slice (some ⟨10, 0, none⟩) 266 270)]
  ins := [.cells (bs [72, 78, 75, 49, 11, 3, 112, 111, 115, 12, 6, 109, 97, 116, 114, 105, 120, 3, 8, 114, 101, 97, 100, 105, 110, 103, 115, 60, 5, 102, 105, 114, 115, 116, 6, 8, 115, 117, 114, 102, 97, 99, 101, 115, 63, 7, 115, 117, 114, 102, 97, 99, 101, 6, 4, 108, 101, 102, 116, 6, 5, 114, 105, 103, 104, 116, 6, 4, 99, 111, 115, 116, 8, 5, 111, 114, 100, 101, 114, 6, 2, 97, 116, 6, 2, 3, 66, 79, 83, 0, 4, 110, 111, 117, 110, 0, 2, 10, 0, 16, 0, 0, 0, 15, 0, 0, 0, 85, 21, 0, 0, 0, 0, 0, 0, 0, 0, 0, 0, 6, 0, 0, 0, 227, 129, 139, 227, 129, 141, 16, 0, 0, 0, 7, 0, 0, 0, 72, 0, 0, 0, 0, 0, 0, 0, 0, 0, 0, 0, 6, 0, 0, 0, 2, 0, 0, 0, 1, 2, 2, 0, 0, 0, 2, 8, 16, 0, 0, 0, 21, 0, 0, 0, 93, 85, 1, 0, 0, 0, 0, 0, 0, 0, 0, 0, 9, 0, 0, 0, 230, 231, 232, 159, 167, 154, 191, 145, 138, 16, 0, 0, 0, 10, 0, 0, 0, 128, 3, 0, 0, 0, 0, 0, 0, 0, 0, 0, 0, 6, 0, 0, 0, 3, 0, 0, 0, 2, 36, 3, 0, 0, 0, 2, 9, 3, 0, 0, 0, 1, 7, 3, 0, 0, 0, 1, 7, 3, 0, 0, 0, 6, 148, 135, 2, 3, 0, 0, 0, 2, 18, 3, 0, 0, 0, 2, 36, 43, 218, 46, 115]) 5 0 0 false]
  res := (.int .u32 (.ofNat 1932450347))
  outs := [] }
noncomputable def m5 : Memo := {
  gs := [(6, glob6)]
  args := [(.slice (some ⟨10, 0, none⟩) 270 270)]
  ins := [.cells (bs [72, 78, 75, 49, 11, 3, 112, 111, 115, 12, 6, 109, 97, 116, 114, 105, 120, 3, 8, 114, 101, 97, 100, 105, 110, 103, 115, 60, 5, 102, 105, 114, 115, 116, 6, 8, 115, 117, 114, 102, 97, 99, 101, 115, 63, 7, 115, 117, 114, 102, 97, 99, 101, 6, 4, 108, 101, 102, 116, 6, 5, 114, 105, 103, 104, 116, 6, 4, 99, 111, 115, 116, 8, 5, 111, 114, 100, 101, 114, 6, 2, 97, 116, 6, 2, 3, 66, 79, 83, 0, 4, 110, 111, 117, 110, 0, 2, 10, 0, 16, 0, 0, 0, 15, 0, 0, 0, 85, 21, 0, 0, 0, 0, 0, 0, 0, 0, 0, 0, 6, 0, 0, 0, 227, 129, 139, 227, 129, 141, 16, 0, 0, 0, 7, 0, 0, 0, 72, 0, 0, 0, 0, 0, 0, 0, 0, 0, 0, 0, 6, 0, 0, 0, 2, 0, 0, 0, 1, 2, 2, 0, 0, 0, 2, 8, 16, 0, 0, 0, 21, 0, 0, 0, 93, 85, 1, 0, 0, 0, 0, 0, 0, 0, 0, 0, 9, 0, 0, 0, 230, 231, 232, 159, 167, 154, 191, 145, 138, 16, 0, 0, 0, 10, 0, 0, 0, 128, 3, 0, 0, 0, 0, 0, 0, 0, 0, 0, 0, 6, 0, 0, 0, 3, 0, 0, 0, 2, 36, 3, 0, 0, 0, 2, 9, 3, 0, 0, 0, 1, 7, 3, 0, 0, 0, 1, 7, 3, 0, 0, 0, 6, 148, 135, 2, 3, 0, 0, 0, 2, 18, 3, 0, 0, 0, 2, 36, 43, 218, 46, 115]) 5 0 0 false]
  res := (.tuple ⟨[(.slice (some ⟨11, 0, none⟩) 11 11), (.int .i64 (.ofNat 0))]⟩)
  outs := [.cells [(.string ⟨⟨[112, 111, 115]⟩⟩), (.slice (some ⟨12, 0, none⟩) 12 12), (.string ⟨⟨[109, 97, 116, 114, 105, 120]⟩⟩), (.slice (some ⟨13, 0, none⟩) 3 3), (.string ⟨⟨[114, 101, 97, 100, 105, 110, 103, 115]⟩⟩), (.slice (some ⟨14, 0, none⟩) 60 60), (.string ⟨⟨[102, 105, 114, 115, 116]⟩⟩), (.slice (some ⟨15, 0, none⟩) 6 6), (.string ⟨⟨[115, 117, 114, 102, 97, 99, 101, 115]⟩⟩), (.slice (some ⟨16, 0, none⟩) 63 63), (.string ⟨⟨[115, 117, 114, 102, 97, 99, 101]⟩⟩), (.slice (some ⟨17, 0, none⟩) 6 6), (.string ⟨⟨[108, 101, 102, 116]⟩⟩), (.slice (some ⟨18, 0, none⟩) 6 6), (.string ⟨⟨[114, 105, 103, 104, 116]⟩⟩), (.slice (some ⟨19, 0, none⟩) 6 6), (.string ⟨⟨[99, 111, 115, 116]⟩⟩), (.slice (some ⟨20, 0, none⟩) 8 8), (.string ⟨⟨[111, 114, 100, 101, 114]⟩⟩), (.slice (some ⟨21, 0, none⟩) 6 6), (.string ⟨⟨[97, 116]⟩⟩), (.slice (some ⟨22, 0, none⟩) 6 6)] 216 0 0 true,
     .cells (bs [2, 3, 66, 79, 83, 0, 4, 110, 111, 117, 110, 0]) 5 0 0 false,
     .cells (bs [2, 10, 0]) 5 0 0 false,
     .cells (bs [16, 0, 0, 0, 15, 0, 0, 0, 85, 21, 0, 0, 0, 0, 0, 0, 0, 0, 0, 0, 6, 0, 0, 0, 227, 129, 139, 227, 129, 141, 16, 0, 0, 0, 7, 0, 0, 0, 72, 0, 0, 0, 0, 0, 0, 0, 0, 0, 0, 0, 6, 0, 0, 0, 2, 0, 0, 0, 1, 2]) 5 0 0 false,
     .cells (bs [2, 0, 0, 0, 2, 8]) 5 0 0 false,
     .cells (bs [16, 0, 0, 0, 21, 0, 0, 0, 93, 85, 1, 0, 0, 0, 0, 0, 0, 0, 0, 0, 9, 0, 0, 0, 230, 231, 232, 159, 167, 154, 191, 145, 138, 16, 0, 0, 0, 10, 0, 0, 0, 128, 3, 0, 0, 0, 0, 0, 0, 0, 0, 0, 0, 6, 0, 0, 0, 3, 0, 0, 0, 2, 36]) 5 0 0 false,
     .cells (bs [3, 0, 0, 0, 2, 9]) 5 0 0 false,
     .cells (bs [3, 0, 0, 0, 1, 7]) 5 0 0 false,
     .cells (bs [3, 0, 0, 0, 1, 7]) 5 0 0 false,
     .cells (bs [3, 0, 0, 0, 6, 148, 135, 2]) 5 0 0 false,
     .cells (bs [3, 0, 0, 0, 2, 18]) 5 0 0 false,
     .cells (bs [3, 0, 0, 0, 2, 36]) 5 0 0 false] }
noncomputable def m6 : Memo := {
  gs := []
  args := [(.slice (some ⟨10, 0, none⟩) 60 60)]
  ins := [.cells (bs [16, 0, 0, 0, 15, 0, 0, 0, 85, 21, 0, 0, 0, 0, 0, 0, 0, 0, 0, 0, 6, 0, 0, 0, 227, 129, 139, 227, 129, 141, 16, 0, 0, 0, 7, 0, 0, 0, 72, 0, 0, 0, 0, 0, 0, 0, 0, 0, 0, 0, 6, 0, 0, 0, 2, 0, 0, 0, 1, 2]) 5 0 0 false]
  res := (.tuple ⟨[(.pointer (some ⟨11, 0, none⟩)), (.int .i64 (.ofNat 0))]⟩)
  outs := [.cells [(.pointer (some ⟨12, 0, none⟩)), (.pointer (some ⟨13, 0, none⟩)), (.slice (some ⟨14, 0, none⟩) 6 6), (.pointer (some ⟨15, 0, none⟩)), (.slice (some ⟨16, 0, none⟩) 2 2)] 289 0 0 true,
     .cells [(.int .i64 (.ofNat 15)), (.slice (some ⟨17, 0, none⟩) 1 1), (.slice (some ⟨18, 0, none⟩) 1 1)] 365 0 0 true,
     .cells [(.int .i64 (.ofNat 7)), (.slice (some ⟨19, 0, none⟩) 1 1), (.slice (some ⟨20, 0, none⟩) 1 1)] 365 0 0 true,
     .cells (bs [227, 129, 139, 227, 129, 141]) 5 0 0 false,
     .cells [(.int .i64 (.ofNat 2)), (.int .i64 (.ofNat 1)), (.slice (some ⟨21, 0, none⟩) 1 1)] 332 0 0 true,
     .cells [(.int .i64 (.ofNat 3)), (.int .i64 (.ofNat 6))] 3 0 0 true,
     .cells [(.int .u64 (.ofNat 5461))] 226 0 0 true,
     .cells [(.int .i64 (.ofNat 0))] 3 0 0 false,
     .cells [(.int .u64 (.ofNat 72))] 226 0 0 true,
     .cells [(.int .i64 (.ofNat 0))] 3 0 0 false,
     .cells [(.int .u64 (.ofNat 2))] 226 0 0 true] }
noncomputable def m7 : Memo := {
  gs := []
  args := [(.slice (some ⟨10, 0, none⟩) 63 63)]
  ins := [.cells (bs [16, 0, 0, 0, 21, 0, 0, 0, 93, 85, 1, 0, 0, 0, 0, 0, 0, 0, 0, 0, 9, 0, 0, 0, 230, 231, 232, 159, 167, 154, 191, 145, 138, 16, 0, 0, 0, 10, 0, 0, 0, 128, 3, 0, 0, 0, 0, 0, 0, 0, 0, 0, 0, 6, 0, 0, 0, 3, 0, 0, 0, 2, 36]) 5 0 0 false]
  res := (.tuple ⟨[(.pointer (some ⟨11, 0, none⟩)), (.int .i64 (.ofNat 0))]⟩)
  outs := [.cells [(.pointer (some ⟨12, 0, none⟩)), (.pointer (some ⟨13, 0, none⟩)), (.slice (some ⟨14, 0, none⟩) 9 9), (.pointer (some ⟨15, 0, none⟩)), (.slice (some ⟨16, 0, none⟩) 3 3)] 289 0 0 true,
     .cells [(.int .i64 (.ofNat 21)), (.slice (some ⟨17, 0, none⟩) 1 1), (.slice (some ⟨18, 0, none⟩) 1 1)] 365 0 0 true,
     .cells [(.int .i64 (.ofNat 10)), (.slice (some ⟨19, 0, none⟩) 1 1), (.slice (some ⟨20, 0, none⟩) 1 1)] 365 0 0 true,
     .cells (bs [230, 231, 232, 159, 167, 154, 191, 145, 138]) 5 0 0 false,
     .cells [(.int .i64 (.ofNat 3)), (.int .i64 (.ofNat 2)), (.slice (some ⟨21, 0, none⟩) 1 1)] 332 0 0 true,
     .cells [(.int .i64 (.ofNat 7)), (.int .i64 (.ofNat 8)), (.int .i64 (.ofNat 9))] 3 0 0 true,
     .cells [(.int .u64 (.ofNat 87389))] 226 0 0 true,
     .cells [(.int .i64 (.ofNat 0))] 3 0 0 false,
     .cells [(.int .u64 (.ofNat 896))] 226 0 0 true,
     .cells [(.int .i64 (.ofNat 0))] 3 0 0 false,
     .cells [(.int .u64 (.ofNat 36))] 226 0 0 true] }
noncomputable def m8 : Memo := {
  gs := []
  args := [(.pointer (some ⟨10, 0, none⟩)), (.func (.func 217) ⟨[]⟩ ⟨[(.pointer (some ⟨11, 0, none⟩)), (.pointer (some ⟨12, 0, none⟩))]⟩)]
  ins := [.cells [(.slice (some ⟨13, 0, none⟩) 2 2), (.pointer (some ⟨14, 0, none⟩)), (.pointer (some ⟨15, 0, none⟩)), (.pointer (some ⟨16, 0, none⟩)), (.pointer (some ⟨17, 0, none⟩)), (.pointer (some ⟨18, 0, none⟩)), (.pointer (some ⟨19, 0, none⟩)), (.pointer (some ⟨20, 0, none⟩)), (.pointer (some ⟨21, 0, none⟩)), (.pointer (some ⟨22, 0, none⟩)), (.pointer (some ⟨23, 0, none⟩))] 138 0 0 true,
     .cells [(.int .i64 (.ofNat 0))] 3 0 0 true,
     .cells [(.int .i64 (.ofNat 3))] 3 0 0 true,
     .cells [(.string ⟨⟨[66, 79, 83]⟩⟩), (.int .i64 (.ofNat 0)), (.string ⟨⟨[110, 111, 117, 110]⟩⟩), (.int .i64 (.ofNat 0))] 67 0 0 false,
     .cells [(.int .i64 (.ofNat 2)), (.int .i64 (.ofNat 10)), (.map (some 24))] 311 0 0 true,
     .cells [(.pointer (some ⟨25, 0, none⟩)), (.pointer (some ⟨26, 0, none⟩)), (.slice (some ⟨27, 0, none⟩) 6 6), (.pointer (some ⟨28, 0, none⟩)), (.slice (some ⟨29, 0, none⟩) 2 2)] 289 0 0 true,
     .cells [(.pointer (some ⟨30, 0, none⟩)), (.pointer (some ⟨31, 0, none⟩)), (.slice (some ⟨32, 0, none⟩) 9 9), (.pointer (some ⟨33, 0, none⟩)), (.slice (some ⟨34, 0, none⟩) 3 3)] 289 0 0 true,
     .cells [(.int .i64 (.ofNat 2)), (.int .i64 (.ofNat 2)), (.slice (some ⟨35, 0, none⟩) 1 1)] 332 0 0 true,
     .cells [(.int .i64 (.ofNat 3)), (.int .i64 (.ofNat 2)), (.slice (some ⟨36, 0, none⟩) 1 1)] 332 0 0 true,
     .cells [(.int .i64 (.ofNat 3)), (.int .i64 (.ofNat 1)), (.slice (some ⟨37, 0, none⟩) 1 1)] 332 0 0 true,
     .cells [(.int .i64 (.ofNat 3)), (.int .i64 (.ofNat 1)), (.slice (some ⟨38, 0, none⟩) 1 1)] 332 0 0 true,
     .cells [(.int .i64 (.ofNat 3)), (.int .i64 (.ofNat 6)), (.slice (some ⟨39, 0, none⟩) 1 1)] 332 0 0 true,
     .cells [(.int .i64 (.ofNat 3)), (.int .i64 (.ofNat 2)), (.slice (some ⟨40, 0, none⟩) 1 1)] 332 0 0 true,
     .cells [(.int .i64 (.ofNat 3)), (.int .i64 (.ofNat 2)), (.slice (some ⟨41, 0, none⟩) 1 1)] 332 0 0 true,
     .map [] 0,
     .cells [(.int .i64 (.ofNat 15)), (.slice (some ⟨42, 0, none⟩) 1 1), (.slice (some ⟨43, 0, none⟩) 1 1)] 365 0 0 true,
     .cells [(.int .i64 (.ofNat 7)), (.slice (some ⟨44, 0, none⟩) 1 1), (.slice (some ⟨45, 0, none⟩) 1 1)] 365 0 0 true,
     .cells (bs [227, 129, 139, 227, 129, 141]) 5 0 0 false,
     .cells [(.int .i64 (.ofNat 2)), (.int .i64 (.ofNat 1)), (.slice (some ⟨46, 0, none⟩) 1 1)] 332 0 0 true,
     .cells [(.int .i64 (.ofNat 3)), (.int .i64 (.ofNat 6))] 3 0 0 true,
     .cells [(.int .i64 (.ofNat 21)), (.slice (some ⟨47, 0, none⟩) 1 1), (.slice (some ⟨48, 0, none⟩) 1 1)] 365 0 0 true,
     .cells [(.int .i64 (.ofNat 10)), (.slice (some ⟨49, 0, none⟩) 1 1), (.slice (some ⟨50, 0, none⟩) 1 1)] 365 0 0 true,
     .cells (bs [230, 231, 232, 159, 167, 154, 191, 145, 138]) 5 0 0 false,
     .cells [(.int .i64 (.ofNat 3)), (.int .i64 (.ofNat 2)), (.slice (some ⟨51, 0, none⟩) 1 1)] 332 0 0 true,
     .cells [(.int .i64 (.ofNat 7)), (.int .i64 (.ofNat 8)), (.int .i64 (.ofNat 9))] 3 0 0 true,
     .cells [(.int .u64 (.ofNat 8))] 226 0 0 true,
     .cells [(.int .u64 (.ofNat 9))] 226 0 0 true,
     .cells [(.int .u64 (.ofNat 7))] 226 0 0 true,
     .cells [(.int .u64 (.ofNat 7))] 226 0 0 true,
     .cells [(.int .u64 (.ofNat 165780))] 226 0 0 true,
     .cells [(.int .u64 (.ofNat 18))] 226 0 0 true,
     .cells [(.int .u64 (.ofNat 36))] 226 0 0 true,
     .cells [(.int .u64 (.ofNat 5461))] 226 0 0 true,
     .cells [(.int .i64 (.ofNat 0))] 3 0 0 false,
     .cells [(.int .u64 (.ofNat 72))] 226 0 0 true,
     .cells [(.int .i64 (.ofNat 0))] 3 0 0 false,
     .cells [(.int .u64 (.ofNat 2))] 226 0 0 true,
     .cells [(.int .u64 (.ofNat 87389))] 226 0 0 true,
     .cells [(.int .i64 (.ofNat 0))] 3 0 0 false,
     .cells [(.int .u64 (.ofNat 896))] 226 0 0 true,
     .cells [(.int .i64 (.ofNat 0))] 3 0 0 false,
     .cells [(.int .u64 (.ofNat 36))] 226 0 0 true]
  res := (.slice (some ⟨52, 0, none⟩) 3 3)
  outs := [.cells [(.string ⟨⟨[227, 129, 139]⟩⟩), (.string ⟨⟨[231, 167, 145]⟩⟩), (.int .i64 (.ofNat 1)), (.int .i64 (.ofNat 1)), (.int .i64 (.ofNat 20)), (.string ⟨⟨[227, 129, 139]⟩⟩), (.string ⟨⟨[232, 154, 138]⟩⟩), (.int .i64 (.ofNat 1)), (.int .i64 (.ofNat 1)), (.int .i64 (.ofNat 30)), (.string ⟨⟨[227, 129, 139, 227, 129, 141]⟩⟩), (.string ⟨⟨[230, 159, 191]⟩⟩), (.int .i64 (.ofNat 1)), (.int .i64 (.ofNat 1)), (.int .i64 (.ofNat 40))] 69 0 0 false] }
noncomputable def m9 : Memo := {
  gs := [(0, glob0), (1, glob1), (6, glob6)]
  args := [(.slice (some ⟨10, 0, none⟩) 2 2), (.pointer (some ⟨11, 0, none⟩)), (.slice (some ⟨12, 0, none⟩) 3 3)]
  ins := [.cells [(.string ⟨⟨[66, 79, 83]⟩⟩), (.int .i64 (.ofNat 0)), (.string ⟨⟨[110, 111, 117, 110]⟩⟩), (.int .i64 (.ofNat 0))] 67 0 0 false,
     .cells [(.int .i64 (.ofNat 2)), (.int .i64 (.ofNat 10)), (.map (some 13))] 311 0 0 true,
     .cells [(.string ⟨⟨[227, 129, 139]⟩⟩), (.string ⟨⟨[231, 167, 145]⟩⟩), (.int .i64 (.ofNat 1)), (.int .i64 (.ofNat 1)), (.int .i64 (.ofNat 20)), (.string ⟨⟨[227, 129, 139]⟩⟩), (.string ⟨⟨[232, 154, 138]⟩⟩), (.int .i64 (.ofNat 1)), (.int .i64 (.ofNat 1)), (.int .i64 (.ofNat 30)), (.string ⟨⟨[227, 129, 139, 227, 129, 141]⟩⟩), (.string ⟨⟨[230, 159, 191]⟩⟩), (.int .i64 (.ofNat 1)), (.int .i64 (.ofNat 1)), (.int .i64 (.ofNat 40))] 69 0 0 false,
     .map [] 0]
  res := (.tuple ⟨[(.slice (some ⟨14, 0, none⟩) 270 270), (.int .i64 (.ofNat 0))]⟩)
  outs := [.cells (bs [72, 78, 75, 49, 11, 3, 112, 111, 115, 12, 6, 109, 97, 116, 114, 105, 120, 3, 8, 114, 101, 97, 100, 105, 110, 103, 115, 60, 5, 102, 105, 114, 115, 116, 6, 8, 115, 117, 114, 102, 97, 99, 101, 115, 63, 7, 115, 117, 114, 102, 97, 99, 101, 6, 4, 108, 101, 102, 116, 6, 5, 114, 105, 103, 104, 116, 6, 4, 99, 111, 115, 116, 8, 5, 111, 114, 100, 101, 114, 6, 2, 97, 116, 6, 2, 3, 66, 79, 83, 0, 4, 110, 111, 117, 110, 0, 2, 10, 0, 16, 0, 0, 0, 15, 0, 0, 0, 85, 21, 0, 0, 0, 0, 0, 0, 0, 0, 0, 0, 6, 0, 0, 0, 227, 129, 139, 227, 129, 141, 16, 0, 0, 0, 7, 0, 0, 0, 72, 0, 0, 0, 0, 0, 0, 0, 0, 0, 0, 0, 6, 0, 0, 0, 2, 0, 0, 0, 1, 2, 2, 0, 0, 0, 2, 8, 16, 0, 0, 0, 21, 0, 0, 0, 93, 85, 1, 0, 0, 0, 0, 0, 0, 0, 0, 0, 9, 0, 0, 0, 230, 231, 232, 159, 167, 154, 191, 145, 138, 16, 0, 0, 0, 10, 0, 0, 0, 128, 3, 0, 0, 0, 0, 0, 0, 0, 0, 0, 0, 6, 0, 0, 0, 3, 0, 0, 0, 2, 36, 3, 0, 0, 0, 2, 9, 3, 0, 0, 0, 1, 7, 3, 0, 0, 0, 1, 7, 3, 0, 0, 0, 6, 148, 135, 2, 3, 0, 0, 0, 2, 18, 3, 0, 0, 0, 2, 36, 43, 218, 46, 115]) 5 0 0 false] }
noncomputable def m10 : Memo := {
  gs := [(0, glob0), (1, glob1), (6, glob6)]
  args := [(.slice (some ⟨10, 0, none⟩) 270 270)]
  ins := [.cells (bs [72, 78, 75, 49, 11, 3, 112, 111, 115, 12, 6, 109, 97, 116, 114, 105, 120, 3, 8, 114, 101, 97, 100, 105, 110, 103, 115, 60, 5, 102, 105, 114, 115, 116, 6, 8, 115, 117, 114, 102, 97, 99, 101, 115, 63, 7, 115, 117, 114, 102, 97, 99, 101, 6, 4, 108, 101, 102, 116, 6, 5, 114, 105, 103, 104, 116, 6, 4, 99, 111, 115, 116, 8, 5, 111, 114, 100, 101, 114, 6, 2, 97, 116, 6, 2, 3, 66, 79, 83, 0, 4, 110, 111, 117, 110, 0, 2, 10, 0, 16, 0, 0, 0, 15, 0, 0, 0, 85, 21, 0, 0, 0, 0, 0, 0, 0, 0, 0, 0, 6, 0, 0, 0, 227, 129, 139, 227, 129, 141, 16, 0, 0, 0, 7, 0, 0, 0, 72, 0, 0, 0, 0, 0, 0, 0, 0, 0, 0, 0, 6, 0, 0, 0, 2, 0, 0, 0, 1, 2, 2, 0, 0, 0, 2, 8, 16, 0, 0, 0, 21, 0, 0, 0, 93, 85, 1, 0, 0, 0, 0, 0, 0, 0, 0, 0, 9, 0, 0, 0, 230, 231, 232, 159, 167, 154, 191, 145, 138, 16, 0, 0, 0, 10, 0, 0, 0, 128, 3, 0, 0, 0, 0, 0, 0, 0, 0, 0, 0, 6, 0, 0, 0, 3, 0, 0, 0, 2, 36, 3, 0, 0, 0, 2, 9, 3, 0, 0, 0, 1, 7, 3, 0, 0, 0, 1, 7, 3, 0, 0, 0, 6, 148, 135, 2, 3, 0, 0, 0, 2, 18, 3, 0, 0, 0, 2, 36, 43, 218, 46, 115]) 5 0 0 false]
  res := (.tuple ⟨[(.pointer (some ⟨11, 0, none⟩)), (.int .i64 (.ofNat 0))]⟩)
  outs := [.cells [(.slice (some ⟨12, 0, none⟩) 2 2), (.pointer (some ⟨13, 0, none⟩)), (.pointer (some ⟨14, 0, none⟩)), (.pointer (some ⟨15, 0, none⟩)), (.pointer (some ⟨16, 0, none⟩)), (.pointer (some ⟨17, 0, none⟩)), (.pointer (some ⟨18, 0, none⟩)), (.pointer (some ⟨19, 0, none⟩)), (.pointer (some ⟨20, 0, none⟩)), (.pointer (some ⟨21, 0, none⟩)), (.pointer (some ⟨22, 0, none⟩))] 138 0 0 true,
     .cells [(.string ⟨⟨[66, 79, 83]⟩⟩), (.int .i64 (.ofNat 0)), (.string ⟨⟨[110, 111, 117, 110]⟩⟩), (.int .i64 (.ofNat 0))] 67 0 0 false,
     .cells [(.int .i64 (.ofNat 2)), (.int .i64 (.ofNat 10)), (.map (some 23))] 311 0 0 true,
     .cells [(.pointer (some ⟨24, 0, none⟩)), (.pointer (some ⟨25, 0, none⟩)), (.slice (some ⟨26, 0, none⟩) 6 6), (.pointer (some ⟨27, 0, none⟩)), (.slice (some ⟨28, 0, none⟩) 2 2)] 289 0 0 true,
     .cells [(.pointer (some ⟨29, 0, none⟩)), (.pointer (some ⟨30, 0, none⟩)), (.slice (some ⟨31, 0, none⟩) 9 9), (.pointer (some ⟨32, 0, none⟩)), (.slice (some ⟨33, 0, none⟩) 3 3)] 289 0 0 true,
     .cells [(.int .i64 (.ofNat 2)), (.int .i64 (.ofNat 2)), (.slice (some ⟨34, 0, none⟩) 1 1)] 332 0 0 true,
     .cells [(.int .i64 (.ofNat 3)), (.int .i64 (.ofNat 2)), (.slice (some ⟨35, 0, none⟩) 1 1)] 332 0 0 true,
     .cells [(.int .i64 (.ofNat 3)), (.int .i64 (.ofNat 1)), (.slice (some ⟨36, 0, none⟩) 1 1)] 332 0 0 true,
     .cells [(.int .i64 (.ofNat 3)), (.int .i64 (.ofNat 1)), (.slice (some ⟨37, 0, none⟩) 1 1)] 332 0 0 true,
     .cells [(.int .i64 (.ofNat 3)), (.int .i64 (.ofNat 6)), (.slice (some ⟨38, 0, none⟩) 1 1)] 332 0 0 true,
     .cells [(.int .i64 (.ofNat 3)), (.int .i64 (.ofNat 2)), (.slice (some ⟨39, 0, none⟩) 1 1)] 332 0 0 true,
     .cells [(.int .i64 (.ofNat 3)), (.int .i64 (.ofNat 2)), (.slice (some ⟨40, 0, none⟩) 1 1)] 332 0 0 true,
     .map [] 0,
     .cells [(.int .i64 (.ofNat 15)), (.slice (some ⟨41, 0, none⟩) 1 1), (.slice (some ⟨42, 0, none⟩) 1 1)] 365 0 0 true,
     .cells [(.int .i64 (.ofNat 7)), (.slice (some ⟨43, 0, none⟩) 1 1), (.slice (some ⟨44, 0, none⟩) 1 1)] 365 0 0 true,
     .cells (bs [227, 129, 139, 227, 129, 141]) 5 0 0 false,
     .cells [(.int .i64 (.ofNat 2)), (.int .i64 (.ofNat 1)), (.slice (some ⟨45, 0, none⟩) 1 1)] 332 0 0 true,
     .cells [(.int .i64 (.ofNat 3)), (.int .i64 (.ofNat 6))] 3 0 0 true,
     .cells [(.int .i64 (.ofNat 21)), (.slice (some ⟨46, 0, none⟩) 1 1), (.slice (some ⟨47, 0, none⟩) 1 1)] 365 0 0 true,
     .cells [(.int .i64 (.ofNat 10)), (.slice (some ⟨48, 0, none⟩) 1 1), (.slice (some ⟨49, 0, none⟩) 1 1)] 365 0 0 true,
     .cells (bs [230, 231, 232, 159, 167, 154, 191, 145, 138]) 5 0 0 false,
     .cells [(.int .i64 (.ofNat 3)), (.int .i64 (.ofNat 2)), (.slice (some ⟨50, 0, none⟩) 1 1)] 332 0 0 true,
     .cells [(.int .i64 (.ofNat 7)), (.int .i64 (.ofNat 8)), (.int .i64 (.ofNat 9))] 3 0 0 true,
     .cells [(.int .u64 (.ofNat 8))] 226 0 0 true,
     .cells [(.int .u64 (.ofNat 9))] 226 0 0 true,
     .cells [(.int .u64 (.ofNat 7))] 226 0 0 true,
     .cells [(.int .u64 (.ofNat 7))] 226 0 0 true,
     .cells [(.int .u64 (.ofNat 165780))] 226 0 0 true,
     .cells [(.int .u64 (.ofNat 18))] 226 0 0 true,
     .cells [(.int .u64 (.ofNat 36))] 226 0 0 true,
     .cells [(.int .u64 (.ofNat 5461))] 226 0 0 true,
     .cells [(.int .i64 (.ofNat 0))] 3 0 0 false,
     .cells [(.int .u64 (.ofNat 72))] 226 0 0 true,
     .cells [(.int .i64 (.ofNat 0))] 3 0 0 false,
     .cells [(.int .u64 (.ofNat 2))] 226 0 0 true,
     .cells [(.int .u64 (.ofNat 87389))] 226 0 0 true,
     .cells [(.int .i64 (.ofNat 0))] 3 0 0 false,
     .cells [(.int .u64 (.ofNat 896))] 226 0 0 true,
     .cells [(.int .i64 (.ofNat 0))] 3 0 0 false,
     .cells [(.int .u64 (.ofNat 36))] 226 0 0 true] }
noncomputable def m11 : Memo := {
  gs := []
  args := [(.pointer (some ⟨10, 0, none⟩)), (.string ⟨⟨[227, 129, 139, 227, 129, 141]⟩⟩)]
  ins := [.cells [(.pointer (some ⟨11, 0, none⟩)), (.pointer (some ⟨12, 0, none⟩)), (.slice (some ⟨13, 0, none⟩) 6 6), (.pointer (some ⟨14, 0, none⟩)), (.slice (some ⟨15, 0, none⟩) 2 2)] 289 0 0 true,
     .cells [(.int .i64 (.ofNat 15)), (.slice (some ⟨16, 0, none⟩) 1 1), (.slice (some ⟨17, 0, none⟩) 1 1)] 365 0 0 true,
     .cells [(.int .i64 (.ofNat 7)), (.slice (some ⟨18, 0, none⟩) 1 1), (.slice (some ⟨19, 0, none⟩) 1 1)] 365 0 0 true,
     .cells (bs [227, 129, 139, 227, 129, 141]) 5 0 0 false,
     .cells [(.int .i64 (.ofNat 2)), (.int .i64 (.ofNat 1)), (.slice (some ⟨20, 0, none⟩) 1 1)] 332 0 0 true,
     .cells [(.int .i64 (.ofNat 3)), (.int .i64 (.ofNat 6))] 3 0 0 true,
     .cells [(.int .u64 (.ofNat 5461))] 226 0 0 true,
     .cells [(.int .i64 (.ofNat 0))] 3 0 0 false,
     .cells [(.int .u64 (.ofNat 72))] 226 0 0 true,
     .cells [(.int .i64 (.ofNat 0))] 3 0 0 false,
     .cells [(.int .u64 (.ofNat 2))] 226 0 0 true]
  res := (.slice (some ⟨21, 0, none⟩) 2 2)
  outs := [.cells [(.int .i64 (.ofNat 0)), (.int .i64 (.ofNat 3)), (.int .i64 (.ofNat 1)), (.int .i64 (.ofNat 6))] 341 0 0 false] }
noncomputable def m12 : Memo := {
  gs := []
  args := [(.pointer (some ⟨10, 0, none⟩)), (.func (.func 217) ⟨[]⟩ ⟨[(.pointer (some ⟨11, 0, none⟩)), (.pointer (some ⟨12, 0, none⟩))]⟩)]
  ins := [.cells [(.slice (some ⟨13, 0, none⟩) 2 2), (.pointer (some ⟨14, 0, none⟩)), (.pointer (some ⟨15, 0, none⟩)), (.pointer (some ⟨16, 0, none⟩)), (.pointer (some ⟨17, 0, none⟩)), (.pointer (some ⟨18, 0, none⟩)), (.pointer (some ⟨19, 0, none⟩)), (.pointer (some ⟨20, 0, none⟩)), (.pointer (some ⟨21, 0, none⟩)), (.pointer (some ⟨22, 0, none⟩)), (.pointer (some ⟨23, 0, none⟩))] 138 0 0 true,
     .cells [(.int .i64 (.ofNat 0))] 3 0 0 true,
     .cells [(.int .i64 (.ofNat 2))] 3 0 0 true,
     .cells [(.string ⟨⟨[66, 79, 83]⟩⟩), (.int .i64 (.ofNat 0)), (.string ⟨⟨[110, 111, 117, 110]⟩⟩), (.int .i64 (.ofNat 0))] 67 0 0 false,
     .cells [(.int .i64 (.ofNat 2)), (.int .i64 (.ofNat 10)), (.map (some 24))] 311 0 0 true,
     .cells [(.pointer (some ⟨25, 0, none⟩)), (.pointer (some ⟨26, 0, none⟩)), (.slice (some ⟨27, 0, none⟩) 6 6), (.pointer (some ⟨28, 0, none⟩)), (.slice (some ⟨29, 0, none⟩) 2 2)] 289 0 0 true,
     .cells [(.pointer (some ⟨30, 0, none⟩)), (.pointer (some ⟨31, 0, none⟩)), (.slice (some ⟨32, 0, none⟩) 9 9), (.pointer (some ⟨33, 0, none⟩)), (.slice (some ⟨34, 0, none⟩) 3 3)] 289 0 0 true,
     .cells [(.int .i64 (.ofNat 2)), (.int .i64 (.ofNat 2)), (.slice (some ⟨35, 0, none⟩) 1 1)] 332 0 0 true,
     .cells [(.int .i64 (.ofNat 3)), (.int .i64 (.ofNat 2)), (.slice (some ⟨36, 0, none⟩) 1 1)] 332 0 0 true,
     .cells [(.int .i64 (.ofNat 3)), (.int .i64 (.ofNat 1)), (.slice (some ⟨37, 0, none⟩) 1 1)] 332 0 0 true,
     .cells [(.int .i64 (.ofNat 3)), (.int .i64 (.ofNat 1)), (.slice (some ⟨38, 0, none⟩) 1 1)] 332 0 0 true,
     .cells [(.int .i64 (.ofNat 3)), (.int .i64 (.ofNat 6)), (.slice (some ⟨39, 0, none⟩) 1 1)] 332 0 0 true,
     .cells [(.int .i64 (.ofNat 3)), (.int .i64 (.ofNat 2)), (.slice (some ⟨40, 0, none⟩) 1 1)] 332 0 0 true,
     .cells [(.int .i64 (.ofNat 3)), (.int .i64 (.ofNat 2)), (.slice (some ⟨41, 0, none⟩) 1 1)] 332 0 0 true,
     .map [] 0,
     .cells [(.int .i64 (.ofNat 15)), (.slice (some ⟨42, 0, none⟩) 1 1), (.slice (some ⟨43, 0, none⟩) 1 1)] 365 0 0 true,
     .cells [(.int .i64 (.ofNat 7)), (.slice (some ⟨44, 0, none⟩) 1 1), (.slice (some ⟨45, 0, none⟩) 1 1)] 365 0 0 true,
     .cells (bs [227, 129, 139, 227, 129, 141]) 5 0 0 false,
     .cells [(.int .i64 (.ofNat 2)), (.int .i64 (.ofNat 1)), (.slice (some ⟨46, 0, none⟩) 1 1)] 332 0 0 true,
     .cells [(.int .i64 (.ofNat 3)), (.int .i64 (.ofNat 6))] 3 0 0 true,
     .cells [(.int .i64 (.ofNat 21)), (.slice (some ⟨47, 0, none⟩) 1 1), (.slice (some ⟨48, 0, none⟩) 1 1)] 365 0 0 true,
     .cells [(.int .i64 (.ofNat 10)), (.slice (some ⟨49, 0, none⟩) 1 1), (.slice (some ⟨50, 0, none⟩) 1 1)] 365 0 0 true,
     .cells (bs [230, 231, 232, 159, 167, 154, 191, 145, 138]) 5 0 0 false,
     .cells [(.int .i64 (.ofNat 3)), (.int .i64 (.ofNat 2)), (.slice (some ⟨51, 0, none⟩) 1 1)] 332 0 0 true,
     .cells [(.int .i64 (.ofNat 7)), (.int .i64 (.ofNat 8)), (.int .i64 (.ofNat 9))] 3 0 0 true,
     .cells [(.int .u64 (.ofNat 8))] 226 0 0 true,
     .cells [(.int .u64 (.ofNat 9))] 226 0 0 true,
     .cells [(.int .u64 (.ofNat 7))] 226 0 0 true,
     .cells [(.int .u64 (.ofNat 7))] 226 0 0 true,
     .cells [(.int .u64 (.ofNat 165780))] 226 0 0 true,
     .cells [(.int .u64 (.ofNat 18))] 226 0 0 true,
     .cells [(.int .u64 (.ofNat 36))] 226 0 0 true,
     .cells [(.int .u64 (.ofNat 5461))] 226 0 0 true,
     .cells [(.int .i64 (.ofNat 0))] 3 0 0 false,
     .cells [(.int .u64 (.ofNat 72))] 226 0 0 true,
     .cells [(.int .i64 (.ofNat 0))] 3 0 0 false,
     .cells [(.int .u64 (.ofNat 2))] 226 0 0 true,
     .cells [(.int .u64 (.ofNat 87389))] 226 0 0 true,
     .cells [(.int .i64 (.ofNat 0))] 3 0 0 false,
     .cells [(.int .u64 (.ofNat 896))] 226 0 0 true,
     .cells [(.int .i64 (.ofNat 0))] 3 0 0 false,
     .cells [(.int .u64 (.ofNat 36))] 226 0 0 true]
  res := (.slice (some ⟨52, 0, none⟩) 2 2)
  outs := [.cells [(.string ⟨⟨[227, 129, 139]⟩⟩), (.string ⟨⟨[231, 167, 145]⟩⟩), (.int .i64 (.ofNat 1)), (.int .i64 (.ofNat 1)), (.int .i64 (.ofNat 20)), (.string ⟨⟨[227, 129, 139]⟩⟩), (.string ⟨⟨[232, 154, 138]⟩⟩), (.int .i64 (.ofNat 1)), (.int .i64 (.ofNat 1)), (.int .i64 (.ofNat 30))] 69 0 0 false] }
noncomputable def m13 : Memo := {
  gs := []
  args := [(.pointer (some ⟨10, 0, none⟩)), (.int .i64 (.ofNat 0))]
  ins := [.cells [(.slice (some ⟨11, 0, none⟩) 2 2), (.pointer (some ⟨12, 0, none⟩)), (.pointer (some ⟨13, 0, none⟩)), (.pointer (some ⟨14, 0, none⟩)), (.pointer (some ⟨15, 0, none⟩)), (.pointer (some ⟨16, 0, none⟩)), (.pointer (some ⟨17, 0, none⟩)), (.pointer (some ⟨18, 0, none⟩)), (.pointer (some ⟨19, 0, none⟩)), (.pointer (some ⟨20, 0, none⟩)), (.pointer (some ⟨21, 0, none⟩))] 138 0 0 true,
     .cells [(.string ⟨⟨[66, 79, 83]⟩⟩), (.int .i64 (.ofNat 0)), (.string ⟨⟨[110, 111, 117, 110]⟩⟩), (.int .i64 (.ofNat 0))] 67 0 0 false,
     .cells [(.int .i64 (.ofNat 2)), (.int .i64 (.ofNat 10)), (.map (some 22))] 311 0 0 true,
     .cells [(.pointer (some ⟨23, 0, none⟩)), (.pointer (some ⟨24, 0, none⟩)), (.slice (some ⟨25, 0, none⟩) 6 6), (.pointer (some ⟨26, 0, none⟩)), (.slice (some ⟨27, 0, none⟩) 2 2)] 289 0 0 true,
     .cells [(.pointer (some ⟨28, 0, none⟩)), (.pointer (some ⟨29, 0, none⟩)), (.slice (some ⟨30, 0, none⟩) 9 9), (.pointer (some ⟨31, 0, none⟩)), (.slice (some ⟨32, 0, none⟩) 3 3)] 289 0 0 true,
     .cells [(.int .i64 (.ofNat 2)), (.int .i64 (.ofNat 2)), (.slice (some ⟨33, 0, none⟩) 1 1)] 332 0 0 true,
     .cells [(.int .i64 (.ofNat 3)), (.int .i64 (.ofNat 2)), (.slice (some ⟨34, 0, none⟩) 1 1)] 332 0 0 true,
     .cells [(.int .i64 (.ofNat 3)), (.int .i64 (.ofNat 1)), (.slice (some ⟨35, 0, none⟩) 1 1)] 332 0 0 true,
     .cells [(.int .i64 (.ofNat 3)), (.int .i64 (.ofNat 1)), (.slice (some ⟨36, 0, none⟩) 1 1)] 332 0 0 true,
     .cells [(.int .i64 (.ofNat 3)), (.int .i64 (.ofNat 6)), (.slice (some ⟨37, 0, none⟩) 1 1)] 332 0 0 true,
     .cells [(.int .i64 (.ofNat 3)), (.int .i64 (.ofNat 2)), (.slice (some ⟨38, 0, none⟩) 1 1)] 332 0 0 true,
     .cells [(.int .i64 (.ofNat 3)), (.int .i64 (.ofNat 2)), (.slice (some ⟨39, 0, none⟩) 1 1)] 332 0 0 true,
     .map [] 0,
     .cells [(.int .i64 (.ofNat 15)), (.slice (some ⟨40, 0, none⟩) 1 1), (.slice (some ⟨41, 0, none⟩) 1 1)] 365 0 0 true,
     .cells [(.int .i64 (.ofNat 7)), (.slice (some ⟨42, 0, none⟩) 1 1), (.slice (some ⟨43, 0, none⟩) 1 1)] 365 0 0 true,
     .cells (bs [227, 129, 139, 227, 129, 141]) 5 0 0 false,
     .cells [(.int .i64 (.ofNat 2)), (.int .i64 (.ofNat 1)), (.slice (some ⟨44, 0, none⟩) 1 1)] 332 0 0 true,
     .cells [(.int .i64 (.ofNat 3)), (.int .i64 (.ofNat 6))] 3 0 0 true,
     .cells [(.int .i64 (.ofNat 21)), (.slice (some ⟨45, 0, none⟩) 1 1), (.slice (some ⟨46, 0, none⟩) 1 1)] 365 0 0 true,
     .cells [(.int .i64 (.ofNat 10)), (.slice (some ⟨47, 0, none⟩) 1 1), (.slice (some ⟨48, 0, none⟩) 1 1)] 365 0 0 true,
     .cells (bs [230, 231, 232, 159, 167, 154, 191, 145, 138]) 5 0 0 false,
     .cells [(.int .i64 (.ofNat 3)), (.int .i64 (.ofNat 2)), (.slice (some ⟨49, 0, none⟩) 1 1)] 332 0 0 true,
     .cells [(.int .i64 (.ofNat 7)), (.int .i64 (.ofNat 8)), (.int .i64 (.ofNat 9))] 3 0 0 true,
     .cells [(.int .u64 (.ofNat 8))] 226 0 0 true,
     .cells [(.int .u64 (.ofNat 9))] 226 0 0 true,
     .cells [(.int .u64 (.ofNat 7))] 226 0 0 true,
     .cells [(.int .u64 (.ofNat 7))] 226 0 0 true,
     .cells [(.int .u64 (.ofNat 165780))] 226 0 0 true,
     .cells [(.int .u64 (.ofNat 18))] 226 0 0 true,
     .cells [(.int .u64 (.ofNat 36))] 226 0 0 true,
     .cells [(.int .u64 (.ofNat 5461))] 226 0 0 true,
     .cells [(.int .i64 (.ofNat 0))] 3 0 0 false,
     .cells [(.int .u64 (.ofNat 72))] 226 0 0 true,
     .cells [(.int .i64 (.ofNat 0))] 3 0 0 false,
     .cells [(.int .u64 (.ofNat 2))] 226 0 0 true,
     .cells [(.int .u64 (.ofNat 87389))] 226 0 0 true,
     .cells [(.int .i64 (.ofNat 0))] 3 0 0 false,
     .cells [(.int .u64 (.ofNat 896))] 226 0 0 true,
     .cells [(.int .i64 (.ofNat 0))] 3 0 0 false,
     .cells [(.int .u64 (.ofNat 36))] 226 0 0 true]
  res := (.slice (some ⟨50, 0, none⟩) 2 2)
  outs := [.cells [(.string ⟨⟨[227, 129, 139]⟩⟩), (.string ⟨⟨[231, 167, 145]⟩⟩), (.int .i64 (.ofNat 1)), (.int .i64 (.ofNat 1)), (.int .i64 (.ofNat 20)), (.string ⟨⟨[227, 129, 139]⟩⟩), (.string ⟨⟨[232, 154, 138]⟩⟩), (.int .i64 (.ofNat 1)), (.int .i64 (.ofNat 1)), (.int .i64 (.ofNat 30))] 69 0 0 false] }
noncomputable def m14 : Memo := {
  gs := []
  args := [(.pointer (some ⟨10, 0, none⟩)), (.func (.func 217) ⟨[]⟩ ⟨[(.pointer (some ⟨11, 0, none⟩)), (.pointer (some ⟨12, 0, none⟩))]⟩)]
  ins := [.cells [(.slice (some ⟨13, 0, none⟩) 2 2), (.pointer (some ⟨14, 0, none⟩)), (.pointer (some ⟨15, 0, none⟩)), (.pointer (some ⟨16, 0, none⟩)), (.pointer (some ⟨17, 0, none⟩)), (.pointer (some ⟨18, 0, none⟩)), (.pointer (some ⟨19, 0, none⟩)), (.pointer (some ⟨20, 0, none⟩)), (.pointer (some ⟨21, 0, none⟩)), (.pointer (some ⟨22, 0, none⟩)), (.pointer (some ⟨23, 0, none⟩))] 138 0 0 true,
     .cells [(.int .i64 (.ofNat 2))] 3 0 0 true,
     .cells [(.int .i64 (.ofNat 3))] 3 0 0 true,
     .cells [(.string ⟨⟨[66, 79, 83]⟩⟩), (.int .i64 (.ofNat 0)), (.string ⟨⟨[110, 111, 117, 110]⟩⟩), (.int .i64 (.ofNat 0))] 67 0 0 false,
     .cells [(.int .i64 (.ofNat 2)), (.int .i64 (.ofNat 10)), (.map (some 24))] 311 0 0 true,
     .cells [(.pointer (some ⟨25, 0, none⟩)), (.pointer (some ⟨26, 0, none⟩)), (.slice (some ⟨27, 0, none⟩) 6 6), (.pointer (some ⟨28, 0, none⟩)), (.slice (some ⟨29, 0, none⟩) 2 2)] 289 0 0 true,
     .cells [(.pointer (some ⟨30, 0, none⟩)), (.pointer (some ⟨31, 0, none⟩)), (.slice (some ⟨32, 0, none⟩) 9 9), (.pointer (some ⟨33, 0, none⟩)), (.slice (some ⟨34, 0, none⟩) 3 3)] 289 0 0 true,
     .cells [(.int .i64 (.ofNat 2)), (.int .i64 (.ofNat 2)), (.slice (some ⟨35, 0, none⟩) 1 1)] 332 0 0 true,
     .cells [(.int .i64 (.ofNat 3)), (.int .i64 (.ofNat 2)), (.slice (some ⟨36, 0, none⟩) 1 1)] 332 0 0 true,
     .cells [(.int .i64 (.ofNat 3)), (.int .i64 (.ofNat 1)), (.slice (some ⟨37, 0, none⟩) 1 1)] 332 0 0 true,
     .cells [(.int .i64 (.ofNat 3)), (.int .i64 (.ofNat 1)), (.slice (some ⟨38, 0, none⟩) 1 1)] 332 0 0 true,
     .cells [(.int .i64 (.ofNat 3)), (.int .i64 (.ofNat 6)), (.slice (some ⟨39, 0, none⟩) 1 1)] 332 0 0 true,
     .cells [(.int .i64 (.ofNat 3)), (.int .i64 (.ofNat 2)), (.slice (some ⟨40, 0, none⟩) 1 1)] 332 0 0 true,
     .cells [(.int .i64 (.ofNat 3)), (.int .i64 (.ofNat 2)), (.slice (some ⟨41, 0, none⟩) 1 1)] 332 0 0 true,
     .map [] 0,
     .cells [(.int .i64 (.ofNat 15)), (.slice (some ⟨42, 0, none⟩) 1 1), (.slice (some ⟨43, 0, none⟩) 1 1)] 365 0 0 true,
     .cells [(.int .i64 (.ofNat 7)), (.slice (some ⟨44, 0, none⟩) 1 1), (.slice (some ⟨45, 0, none⟩) 1 1)] 365 0 0 true,
     .cells (bs [227, 129, 139, 227, 129, 141]) 5 0 0 false,
     .cells [(.int .i64 (.ofNat 2)), (.int .i64 (.ofNat 1)), (.slice (some ⟨46, 0, none⟩) 1 1)] 332 0 0 true,
     .cells [(.int .i64 (.ofNat 3)), (.int .i64 (.ofNat 6))] 3 0 0 true,
     .cells [(.int .i64 (.ofNat 21)), (.slice (some ⟨47, 0, none⟩) 1 1), (.slice (some ⟨48, 0, none⟩) 1 1)] 365 0 0 true,
     .cells [(.int .i64 (.ofNat 10)), (.slice (some ⟨49, 0, none⟩) 1 1), (.slice (some ⟨50, 0, none⟩) 1 1)] 365 0 0 true,
     .cells (bs [230, 231, 232, 159, 167, 154, 191, 145, 138]) 5 0 0 false,
     .cells [(.int .i64 (.ofNat 3)), (.int .i64 (.ofNat 2)), (.slice (some ⟨51, 0, none⟩) 1 1)] 332 0 0 true,
     .cells [(.int .i64 (.ofNat 7)), (.int .i64 (.ofNat 8)), (.int .i64 (.ofNat 9))] 3 0 0 true,
     .cells [(.int .u64 (.ofNat 8))] 226 0 0 true,
     .cells [(.int .u64 (.ofNat 9))] 226 0 0 true,
     .cells [(.int .u64 (.ofNat 7))] 226 0 0 true,
     .cells [(.int .u64 (.ofNat 7))] 226 0 0 true,
     .cells [(.int .u64 (.ofNat 165780))] 226 0 0 true,
     .cells [(.int .u64 (.ofNat 18))] 226 0 0 true,
     .cells [(.int .u64 (.ofNat 36))] 226 0 0 true,
     .cells [(.int .u64 (.ofNat 5461))] 226 0 0 true,
     .cells [(.int .i64 (.ofNat 0))] 3 0 0 false,
     .cells [(.int .u64 (.ofNat 72))] 226 0 0 true,
     .cells [(.int .i64 (.ofNat 0))] 3 0 0 false,
     .cells [(.int .u64 (.ofNat 2))] 226 0 0 true,
     .cells [(.int .u64 (.ofNat 87389))] 226 0 0 true,
     .cells [(.int .i64 (.ofNat 0))] 3 0 0 false,
     .cells [(.int .u64 (.ofNat 896))] 226 0 0 true,
     .cells [(.int .i64 (.ofNat 0))] 3 0 0 false,
     .cells [(.int .u64 (.ofNat 36))] 226 0 0 true]
  res := (.slice (some ⟨52, 0, none⟩) 1 1)
  outs := [.cells [(.string ⟨⟨[227, 129, 139, 227, 129, 141]⟩⟩), (.string ⟨⟨[230, 159, 191]⟩⟩), (.int .i64 (.ofNat 1)), (.int .i64 (.ofNat 1)), (.int .i64 (.ofNat 40))] 69 0 0 false] }
noncomputable def m15 : Memo := {
  gs := []
  args := [(.pointer (some ⟨10, 0, none⟩)), (.int .i64 (.ofNat 1))]
  ins := [.cells [(.slice (some ⟨11, 0, none⟩) 2 2), (.pointer (some ⟨12, 0, none⟩)), (.pointer (some ⟨13, 0, none⟩)), (.pointer (some ⟨14, 0, none⟩)), (.pointer (some ⟨15, 0, none⟩)), (.pointer (some ⟨16, 0, none⟩)), (.pointer (some ⟨17, 0, none⟩)), (.pointer (some ⟨18, 0, none⟩)), (.pointer (some ⟨19, 0, none⟩)), (.pointer (some ⟨20, 0, none⟩)), (.pointer (some ⟨21, 0, none⟩))] 138 0 0 true,
     .cells [(.string ⟨⟨[66, 79, 83]⟩⟩), (.int .i64 (.ofNat 0)), (.string ⟨⟨[110, 111, 117, 110]⟩⟩), (.int .i64 (.ofNat 0))] 67 0 0 false,
     .cells [(.int .i64 (.ofNat 2)), (.int .i64 (.ofNat 10)), (.map (some 22))] 311 0 0 true,
     .cells [(.pointer (some ⟨23, 0, none⟩)), (.pointer (some ⟨24, 0, none⟩)), (.slice (some ⟨25, 0, none⟩) 6 6), (.pointer (some ⟨26, 0, none⟩)), (.slice (some ⟨27, 0, none⟩) 2 2)] 289 0 0 true,
     .cells [(.pointer (some ⟨28, 0, none⟩)), (.pointer (some ⟨29, 0, none⟩)), (.slice (some ⟨30, 0, none⟩) 9 9), (.pointer (some ⟨31, 0, none⟩)), (.slice (some ⟨32, 0, none⟩) 3 3)] 289 0 0 true,
     .cells [(.int .i64 (.ofNat 2)), (.int .i64 (.ofNat 2)), (.slice (some ⟨33, 0, none⟩) 1 1)] 332 0 0 true,
     .cells [(.int .i64 (.ofNat 3)), (.int .i64 (.ofNat 2)), (.slice (some ⟨34, 0, none⟩) 1 1)] 332 0 0 true,
     .cells [(.int .i64 (.ofNat 3)), (.int .i64 (.ofNat 1)), (.slice (some ⟨35, 0, none⟩) 1 1)] 332 0 0 true,
     .cells [(.int .i64 (.ofNat 3)), (.int .i64 (.ofNat 1)), (.slice (some ⟨36, 0, none⟩) 1 1)] 332 0 0 true,
     .cells [(.int .i64 (.ofNat 3)), (.int .i64 (.ofNat 6)), (.slice (some ⟨37, 0, none⟩) 1 1)] 332 0 0 true,
     .cells [(.int .i64 (.ofNat 3)), (.int .i64 (.ofNat 2)), (.slice (some ⟨38, 0, none⟩) 1 1)] 332 0 0 true,
     .cells [(.int .i64 (.ofNat 3)), (.int .i64 (.ofNat 2)), (.slice (some ⟨39, 0, none⟩) 1 1)] 332 0 0 true,
     .map [] 0,
     .cells [(.int .i64 (.ofNat 15)), (.slice (some ⟨40, 0, none⟩) 1 1), (.slice (some ⟨41, 0, none⟩) 1 1)] 365 0 0 true,
     .cells [(.int .i64 (.ofNat 7)), (.slice (some ⟨42, 0, none⟩) 1 1), (.slice (some ⟨43, 0, none⟩) 1 1)] 365 0 0 true,
     .cells (bs [227, 129, 139, 227, 129, 141]) 5 0 0 false,
     .cells [(.int .i64 (.ofNat 2)), (.int .i64 (.ofNat 1)), (.slice (some ⟨44, 0, none⟩) 1 1)] 332 0 0 true,
     .cells [(.int .i64 (.ofNat 3)), (.int .i64 (.ofNat 6))] 3 0 0 true,
     .cells [(.int .i64 (.ofNat 21)), (.slice (some ⟨45, 0, none⟩) 1 1), (.slice (some ⟨46, 0, none⟩) 1 1)] 365 0 0 true,
     .cells [(.int .i64 (.ofNat 10)), (.slice (some ⟨47, 0, none⟩) 1 1), (.slice (some ⟨48, 0, none⟩) 1 1)] 365 0 0 true,
     .cells (bs [230, 231, 232, 159, 167, 154, 191, 145, 138]) 5 0 0 false,
     .cells [(.int .i64 (.ofNat 3)), (.int .i64 (.ofNat 2)), (.slice (some ⟨49, 0, none⟩) 1 1)] 332 0 0 true,
     .cells [(.int .i64 (.ofNat 7)), (.int .i64 (.ofNat 8)), (.int .i64 (.ofNat 9))] 3 0 0 true,
     .cells [(.int .u64 (.ofNat 8))] 226 0 0 true,
     .cells [(.int .u64 (.ofNat 9))] 226 0 0 true,
     .cells [(.int .u64 (.ofNat 7))] 226 0 0 true,
     .cells [(.int .u64 (.ofNat 7))] 226 0 0 true,
     .cells [(.int .u64 (.ofNat 165780))] 226 0 0 true,
     .cells [(.int .u64 (.ofNat 18))] 226 0 0 true,
     .cells [(.int .u64 (.ofNat 36))] 226 0 0 true,
     .cells [(.int .u64 (.ofNat 5461))] 226 0 0 true,
     .cells [(.int .i64 (.ofNat 0))] 3 0 0 false,
     .cells [(.int .u64 (.ofNat 72))] 226 0 0 true,
     .cells [(.int .i64 (.ofNat 0))] 3 0 0 false,
     .cells [(.int .u64 (.ofNat 2))] 226 0 0 true,
     .cells [(.int .u64 (.ofNat 87389))] 226 0 0 true,
     .cells [(.int .i64 (.ofNat 0))] 3 0 0 false,
     .cells [(.int .u64 (.ofNat 896))] 226 0 0 true,
     .cells [(.int .i64 (.ofNat 0))] 3 0 0 false,
     .cells [(.int .u64 (.ofNat 36))] 226 0 0 true]
  res := (.slice (some ⟨50, 0, none⟩) 1 1)
  outs := [.cells [(.string ⟨⟨[227, 129, 139, 227, 129, 141]⟩⟩), (.string ⟨⟨[230, 159, 191]⟩⟩), (.int .i64 (.ofNat 1)), (.int .i64 (.ofNat 1)), (.int .i64 (.ofNat 40))] 69 0 0 false] }
noncomputable def m16 : Memo := {
  gs := []
  args := [(.pointer (some ⟨10, 0, none⟩)), (.string ⟨⟨[227, 129, 139, 227, 129, 141]⟩⟩)]
  ins := [.cells [(.slice (some ⟨11, 0, none⟩) 2 2), (.pointer (some ⟨12, 0, none⟩)), (.pointer (some ⟨13, 0, none⟩)), (.pointer (some ⟨14, 0, none⟩)), (.pointer (some ⟨15, 0, none⟩)), (.pointer (some ⟨16, 0, none⟩)), (.pointer (some ⟨17, 0, none⟩)), (.pointer (some ⟨18, 0, none⟩)), (.pointer (some ⟨19, 0, none⟩)), (.pointer (some ⟨20, 0, none⟩)), (.pointer (some ⟨21, 0, none⟩))] 138 0 0 true,
     .cells [(.string ⟨⟨[66, 79, 83]⟩⟩), (.int .i64 (.ofNat 0)), (.string ⟨⟨[110, 111, 117, 110]⟩⟩), (.int .i64 (.ofNat 0))] 67 0 0 false,
     .cells [(.int .i64 (.ofNat 2)), (.int .i64 (.ofNat 10)), (.map (some 22))] 311 0 0 true,
     .cells [(.pointer (some ⟨23, 0, none⟩)), (.pointer (some ⟨24, 0, none⟩)), (.slice (some ⟨25, 0, none⟩) 6 6), (.pointer (some ⟨26, 0, none⟩)), (.slice (some ⟨27, 0, none⟩) 2 2)] 289 0 0 true,
     .cells [(.pointer (some ⟨28, 0, none⟩)), (.pointer (some ⟨29, 0, none⟩)), (.slice (some ⟨30, 0, none⟩) 9 9), (.pointer (some ⟨31, 0, none⟩)), (.slice (some ⟨32, 0, none⟩) 3 3)] 289 0 0 true,
     .cells [(.int .i64 (.ofNat 2)), (.int .i64 (.ofNat 2)), (.slice (some ⟨33, 0, none⟩) 1 1)] 332 0 0 true,
     .cells [(.int .i64 (.ofNat 3)), (.int .i64 (.ofNat 2)), (.slice (some ⟨34, 0, none⟩) 1 1)] 332 0 0 true,
     .cells [(.int .i64 (.ofNat 3)), (.int .i64 (.ofNat 1)), (.slice (some ⟨35, 0, none⟩) 1 1)] 332 0 0 true,
     .cells [(.int .i64 (.ofNat 3)), (.int .i64 (.ofNat 1)), (.slice (some ⟨36, 0, none⟩) 1 1)] 332 0 0 true,
     .cells [(.int .i64 (.ofNat 3)), (.int .i64 (.ofNat 6)), (.slice (some ⟨37, 0, none⟩) 1 1)] 332 0 0 true,
     .cells [(.int .i64 (.ofNat 3)), (.int .i64 (.ofNat 2)), (.slice (some ⟨38, 0, none⟩) 1 1)] 332 0 0 true,
     .cells [(.int .i64 (.ofNat 3)), (.int .i64 (.ofNat 2)), (.slice (some ⟨39, 0, none⟩) 1 1)] 332 0 0 true,
     .map [] 0,
     .cells [(.int .i64 (.ofNat 15)), (.slice (some ⟨40, 0, none⟩) 1 1), (.slice (some ⟨41, 0, none⟩) 1 1)] 365 0 0 true,
     .cells [(.int .i64 (.ofNat 7)), (.slice (some ⟨42, 0, none⟩) 1 1), (.slice (some ⟨43, 0, none⟩) 1 1)] 365 0 0 true,
     .cells (bs [227, 129, 139, 227, 129, 141]) 5 0 0 false,
     .cells [(.int .i64 (.ofNat 2)), (.int .i64 (.ofNat 1)), (.slice (some ⟨44, 0, none⟩) 1 1)] 332 0 0 true,
     .cells [(.int .i64 (.ofNat 3)), (.int .i64 (.ofNat 6))] 3 0 0 true,
     .cells [(.int .i64 (.ofNat 21)), (.slice (some ⟨45, 0, none⟩) 1 1), (.slice (some ⟨46, 0, none⟩) 1 1)] 365 0 0 true,
     .cells [(.int .i64 (.ofNat 10)), (.slice (some ⟨47, 0, none⟩) 1 1), (.slice (some ⟨48, 0, none⟩) 1 1)] 365 0 0 true,
     .cells (bs [230, 231, 232, 159, 167, 154, 191, 145, 138]) 5 0 0 false,
     .cells [(.int .i64 (.ofNat 3)), (.int .i64 (.ofNat 2)), (.slice (some ⟨49, 0, none⟩) 1 1)] 332 0 0 true,
     .cells [(.int .i64 (.ofNat 7)), (.int .i64 (.ofNat 8)), (.int .i64 (.ofNat 9))] 3 0 0 true,
     .cells [(.int .u64 (.ofNat 8))] 226 0 0 true,
     .cells [(.int .u64 (.ofNat 9))] 226 0 0 true,
     .cells [(.int .u64 (.ofNat 7))] 226 0 0 true,
     .cells [(.int .u64 (.ofNat 7))] 226 0 0 true,
     .cells [(.int .u64 (.ofNat 165780))] 226 0 0 true,
     .cells [(.int .u64 (.ofNat 18))] 226 0 0 true,
     .cells [(.int .u64 (.ofNat 36))] 226 0 0 true,
     .cells [(.int .u64 (.ofNat 5461))] 226 0 0 true,
     .cells [(.int .i64 (.ofNat 0))] 3 0 0 false,
     .cells [(.int .u64 (.ofNat 72))] 226 0 0 true,
     .cells [(.int .i64 (.ofNat 0))] 3 0 0 false,
     .cells [(.int .u64 (.ofNat 2))] 226 0 0 true,
     .cells [(.int .u64 (.ofNat 87389))] 226 0 0 true,
     .cells [(.int .i64 (.ofNat 0))] 3 0 0 false,
     .cells [(.int .u64 (.ofNat 896))] 226 0 0 true,
     .cells [(.int .i64 (.ofNat 0))] 3 0 0 false,
     .cells [(.int .u64 (.ofNat 36))] 226 0 0 true]
  res := (.slice (some ⟨50, 0, none⟩) 3 3)
  outs := [.cells [(.string ⟨⟨[227, 129, 139]⟩⟩), (.string ⟨⟨[231, 167, 145]⟩⟩), (.int .i64 (.ofNat 1)), (.int .i64 (.ofNat 1)), (.int .i64 (.ofNat 20)), (.string ⟨⟨[227, 129, 139]⟩⟩), (.string ⟨⟨[232, 154, 138]⟩⟩), (.int .i64 (.ofNat 1)), (.int .i64 (.ofNat 1)), (.int .i64 (.ofNat 30)), (.string ⟨⟨[227, 129, 139, 227, 129, 141]⟩⟩), (.string ⟨⟨[230, 159, 191]⟩⟩), (.int .i64 (.ofNat 1)), (.int .i64 (.ofNat 1)), (.int .i64 (.ofNat 40))] 69 0 0 false] }
noncomputable def m17 : Memo := {
  gs := []
  args := [(.pointer (some ⟨10, 0, none⟩)), (.string ⟨⟨[227, 129, 141]⟩⟩)]
  ins := [.cells [(.pointer (some ⟨11, 0, none⟩)), (.pointer (some ⟨12, 0, none⟩)), (.slice (some ⟨13, 0, none⟩) 6 6), (.pointer (some ⟨14, 0, none⟩)), (.slice (some ⟨15, 0, none⟩) 2 2)] 289 0 0 true,
     .cells [(.int .i64 (.ofNat 15)), (.slice (some ⟨16, 0, none⟩) 1 1), (.slice (some ⟨17, 0, none⟩) 1 1)] 365 0 0 true,
     .cells [(.int .i64 (.ofNat 7)), (.slice (some ⟨18, 0, none⟩) 1 1), (.slice (some ⟨19, 0, none⟩) 1 1)] 365 0 0 true,
     .cells (bs [227, 129, 139, 227, 129, 141]) 5 0 0 false,
     .cells [(.int .i64 (.ofNat 2)), (.int .i64 (.ofNat 1)), (.slice (some ⟨20, 0, none⟩) 1 1)] 332 0 0 true,
     .cells [(.int .i64 (.ofNat 3)), (.int .i64 (.ofNat 6))] 3 0 0 true,
     .cells [(.int .u64 (.ofNat 5461))] 226 0 0 true,
     .cells [(.int .i64 (.ofNat 0))] 3 0 0 false,
     .cells [(.int .u64 (.ofNat 72))] 226 0 0 true,
     .cells [(.int .i64 (.ofNat 0))] 3 0 0 false,
     .cells [(.int .u64 (.ofNat 2))] 226 0 0 true]
  res := (.slice none 0 0)
  outs := [] }
noncomputable def m18 : Memo := {
  gs := []
  args := [(.pointer (some ⟨10, 0, none⟩)), (.string ⟨⟨[227, 129, 141]⟩⟩)]
  ins := [.cells [(.slice (some ⟨11, 0, none⟩) 2 2), (.pointer (some ⟨12, 0, none⟩)), (.pointer (some ⟨13, 0, none⟩)), (.pointer (some ⟨14, 0, none⟩)), (.pointer (some ⟨15, 0, none⟩)), (.pointer (some ⟨16, 0, none⟩)), (.pointer (some ⟨17, 0, none⟩)), (.pointer (some ⟨18, 0, none⟩)), (.pointer (some ⟨19, 0, none⟩)), (.pointer (some ⟨20, 0, none⟩)), (.pointer (some ⟨21, 0, none⟩))] 138 0 0 true,
     .cells [(.string ⟨⟨[66, 79, 83]⟩⟩), (.int .i64 (.ofNat 0)), (.string ⟨⟨[110, 111, 117, 110]⟩⟩), (.int .i64 (.ofNat 0))] 67 0 0 false,
     .cells [(.int .i64 (.ofNat 2)), (.int .i64 (.ofNat 10)), (.map (some 22))] 311 0 0 true,
     .cells [(.pointer (some ⟨23, 0, none⟩)), (.pointer (some ⟨24, 0, none⟩)), (.slice (some ⟨25, 0, none⟩) 6 6), (.pointer (some ⟨26, 0, none⟩)), (.slice (some ⟨27, 0, none⟩) 2 2)] 289 0 0 true,
     .cells [(.pointer (some ⟨28, 0, none⟩)), (.pointer (some ⟨29, 0, none⟩)), (.slice (some ⟨30, 0, none⟩) 9 9), (.pointer (some ⟨31, 0, none⟩)), (.slice (some ⟨32, 0, none⟩) 3 3)] 289 0 0 true,
     .cells [(.int .i64 (.ofNat 2)), (.int .i64 (.ofNat 2)), (.slice (some ⟨33, 0, none⟩) 1 1)] 332 0 0 true,
     .cells [(.int .i64 (.ofNat 3)), (.int .i64 (.ofNat 2)), (.slice (some ⟨34, 0, none⟩) 1 1)] 332 0 0 true,
     .cells [(.int .i64 (.ofNat 3)), (.int .i64 (.ofNat 1)), (.slice (some ⟨35, 0, none⟩) 1 1)] 332 0 0 true,
     .cells [(.int .i64 (.ofNat 3)), (.int .i64 (.ofNat 1)), (.slice (some ⟨36, 0, none⟩) 1 1)] 332 0 0 true,
     .cells [(.int .i64 (.ofNat 3)), (.int .i64 (.ofNat 6)), (.slice (some ⟨37, 0, none⟩) 1 1)] 332 0 0 true,
     .cells [(.int .i64 (.ofNat 3)), (.int .i64 (.ofNat 2)), (.slice (some ⟨38, 0, none⟩) 1 1)] 332 0 0 true,
     .cells [(.int .i64 (.ofNat 3)), (.int .i64 (.ofNat 2)), (.slice (some ⟨39, 0, none⟩) 1 1)] 332 0 0 true,
     .map [] 0,
     .cells [(.int .i64 (.ofNat 15)), (.slice (some ⟨40, 0, none⟩) 1 1), (.slice (some ⟨41, 0, none⟩) 1 1)] 365 0 0 true,
     .cells [(.int .i64 (.ofNat 7)), (.slice (some ⟨42, 0, none⟩) 1 1), (.slice (some ⟨43, 0, none⟩) 1 1)] 365 0 0 true,
     .cells (bs [227, 129, 139, 227, 129, 141]) 5 0 0 false,
     .cells [(.int .i64 (.ofNat 2)), (.int .i64 (.ofNat 1)), (.slice (some ⟨44, 0, none⟩) 1 1)] 332 0 0 true,
     .cells [(.int .i64 (.ofNat 3)), (.int .i64 (.ofNat 6))] 3 0 0 true,
     .cells [(.int .i64 (.ofNat 21)), (.slice (some ⟨45, 0, none⟩) 1 1), (.slice (some ⟨46, 0, none⟩) 1 1)] 365 0 0 true,
     .cells [(.int .i64 (.ofNat 10)), (.slice (some ⟨47, 0, none⟩) 1 1), (.slice (some ⟨48, 0, none⟩) 1 1)] 365 0 0 true,
     .cells (bs [230, 231, 232, 159, 167, 154, 191, 145, 138]) 5 0 0 false,
     .cells [(.int .i64 (.ofNat 3)), (.int .i64 (.ofNat 2)), (.slice (some ⟨49, 0, none⟩) 1 1)] 332 0 0 true,
     .cells [(.int .i64 (.ofNat 7)), (.int .i64 (.ofNat 8)), (.int .i64 (.ofNat 9))] 3 0 0 true,
     .cells [(.int .u64 (.ofNat 8))] 226 0 0 true,
     .cells [(.int .u64 (.ofNat 9))] 226 0 0 true,
     .cells [(.int .u64 (.ofNat 7))] 226 0 0 true,
     .cells [(.int .u64 (.ofNat 7))] 226 0 0 true,
     .cells [(.int .u64 (.ofNat 165780))] 226 0 0 true,
     .cells [(.int .u64 (.ofNat 18))] 226 0 0 true,
     .cells [(.int .u64 (.ofNat 36))] 226 0 0 true,
     .cells [(.int .u64 (.ofNat 5461))] 226 0 0 true,
     .cells [(.int .i64 (.ofNat 0))] 3 0 0 false,
     .cells [(.int .u64 (.ofNat 72))] 226 0 0 true,
     .cells [(.int .i64 (.ofNat 0))] 3 0 0 false,
     .cells [(.int .u64 (.ofNat 2))] 226 0 0 true,
     .cells [(.int .u64 (.ofNat 87389))] 226 0 0 true,
     .cells [(.int .i64 (.ofNat 0))] 3 0 0 false,
     .cells [(.int .u64 (.ofNat 896))] 226 0 0 true,
     .cells [(.int .i64 (.ofNat 0))] 3 0 0 false,
     .cells [(.int .u64 (.ofNat 36))] 226 0 0 true]
  res := (.slice none 0 0)
  outs := [] }
noncomputable def m19 : Memo := {
  gs := [(0, glob0), (1, glob1)]
  args := [(.pointer (some ⟨10, 0, none⟩)), (.string ⟨⟨[227, 129, 139, 227, 129, 141]⟩⟩), (.slice none 0 0), (.slice none 0 0)]
  ins := [.cells [(.slice (some ⟨11, 0, none⟩) 2 2), (.pointer (some ⟨12, 0, none⟩)), (.pointer (some ⟨13, 0, none⟩)), (.pointer (some ⟨14, 0, none⟩)), (.pointer (some ⟨15, 0, none⟩)), (.pointer (some ⟨16, 0, none⟩)), (.pointer (some ⟨17, 0, none⟩)), (.pointer (some ⟨18, 0, none⟩)), (.pointer (some ⟨19, 0, none⟩)), (.pointer (some ⟨20, 0, none⟩)), (.pointer (some ⟨21, 0, none⟩))] 138 0 0 true,
     .cells [(.string ⟨⟨[66, 79, 83]⟩⟩), (.int .i64 (.ofNat 0)), (.string ⟨⟨[110, 111, 117, 110]⟩⟩), (.int .i64 (.ofNat 0))] 67 0 0 false,
     .cells [(.int .i64 (.ofNat 2)), (.int .i64 (.ofNat 10)), (.map (some 22))] 311 0 0 true,
     .cells [(.pointer (some ⟨23, 0, none⟩)), (.pointer (some ⟨24, 0, none⟩)), (.slice (some ⟨25, 0, none⟩) 6 6), (.pointer (some ⟨26, 0, none⟩)), (.slice (some ⟨27, 0, none⟩) 2 2)] 289 0 0 true,
     .cells [(.pointer (some ⟨28, 0, none⟩)), (.pointer (some ⟨29, 0, none⟩)), (.slice (some ⟨30, 0, none⟩) 9 9), (.pointer (some ⟨31, 0, none⟩)), (.slice (some ⟨32, 0, none⟩) 3 3)] 289 0 0 true,
     .cells [(.int .i64 (.ofNat 2)), (.int .i64 (.ofNat 2)), (.slice (some ⟨33, 0, none⟩) 1 1)] 332 0 0 true,
     .cells [(.int .i64 (.ofNat 3)), (.int .i64 (.ofNat 2)), (.slice (some ⟨34, 0, none⟩) 1 1)] 332 0 0 true,
     .cells [(.int .i64 (.ofNat 3)), (.int .i64 (.ofNat 1)), (.slice (some ⟨35, 0, none⟩) 1 1)] 332 0 0 true,
     .cells [(.int .i64 (.ofNat 3)), (.int .i64 (.ofNat 1)), (.slice (some ⟨36, 0, none⟩) 1 1)] 332 0 0 true,
     .cells [(.int .i64 (.ofNat 3)), (.int .i64 (.ofNat 6)), (.slice (some ⟨37, 0, none⟩) 1 1)] 332 0 0 true,
     .cells [(.int .i64 (.ofNat 3)), (.int .i64 (.ofNat 2)), (.slice (some ⟨38, 0, none⟩) 1 1)] 332 0 0 true,
     .cells [(.int .i64 (.ofNat 3)), (.int .i64 (.ofNat 2)), (.slice (some ⟨39, 0, none⟩) 1 1)] 332 0 0 true,
     .map [] 0,
     .cells [(.int .i64 (.ofNat 15)), (.slice (some ⟨40, 0, none⟩) 1 1), (.slice (some ⟨41, 0, none⟩) 1 1)] 365 0 0 true,
     .cells [(.int .i64 (.ofNat 7)), (.slice (some ⟨42, 0, none⟩) 1 1), (.slice (some ⟨43, 0, none⟩) 1 1)] 365 0 0 true,
     .cells (bs [227, 129, 139, 227, 129, 141]) 5 0 0 false,
     .cells [(.int .i64 (.ofNat 2)), (.int .i64 (.ofNat 1)), (.slice (some ⟨44, 0, none⟩) 1 1)] 332 0 0 true,
     .cells [(.int .i64 (.ofNat 3)), (.int .i64 (.ofNat 6))] 3 0 0 true,
     .cells [(.int .i64 (.ofNat 21)), (.slice (some ⟨45, 0, none⟩) 1 1), (.slice (some ⟨46, 0, none⟩) 1 1)] 365 0 0 true,
     .cells [(.int .i64 (.ofNat 10)), (.slice (some ⟨47, 0, none⟩) 1 1), (.slice (some ⟨48, 0, none⟩) 1 1)] 365 0 0 true,
     .cells (bs [230, 231, 232, 159, 167, 154, 191, 145, 138]) 5 0 0 false,
     .cells [(.int .i64 (.ofNat 3)), (.int .i64 (.ofNat 2)), (.slice (some ⟨49, 0, none⟩) 1 1)] 332 0 0 true,
     .cells [(.int .i64 (.ofNat 7)), (.int .i64 (.ofNat 8)), (.int .i64 (.ofNat 9))] 3 0 0 true,
     .cells [(.int .u64 (.ofNat 8))] 226 0 0 true,
     .cells [(.int .u64 (.ofNat 9))] 226 0 0 true,
     .cells [(.int .u64 (.ofNat 7))] 226 0 0 true,
     .cells [(.int .u64 (.ofNat 7))] 226 0 0 true,
     .cells [(.int .u64 (.ofNat 165780))] 226 0 0 true,
     .cells [(.int .u64 (.ofNat 18))] 226 0 0 true,
     .cells [(.int .u64 (.ofNat 36))] 226 0 0 true,
     .cells [(.int .u64 (.ofNat 5461))] 226 0 0 true,
     .cells [(.int .i64 (.ofNat 0))] 3 0 0 false,
     .cells [(.int .u64 (.ofNat 72))] 226 0 0 true,
     .cells [(.int .i64 (.ofNat 0))] 3 0 0 false,
     .cells [(.int .u64 (.ofNat 2))] 226 0 0 true,
     .cells [(.int .u64 (.ofNat 87389))] 226 0 0 true,
     .cells [(.int .i64 (.ofNat 0))] 3 0 0 false,
     .cells [(.int .u64 (.ofNat 896))] 226 0 0 true,
     .cells [(.int .i64 (.ofNat 0))] 3 0 0 false,
     .cells [(.int .u64 (.ofNat 36))] 226 0 0 true]
  res := (.tuple ⟨[(.pointer (some ⟨50, 0, none⟩)), (.int .i64 (.ofNat 0))]⟩)
  outs := [.cells [(.pointer (some ⟨10, 0, none⟩)), (.string ⟨⟨[227, 129, 139, 227, 129, 141]⟩⟩), (.slice (some ⟨51, 0, none⟩) 5 5), (.slice (some ⟨52, 0, none⟩) 2 2), (.map (some 53))] 82 0 0 true,
     .cells [(.int .i64 (.ofNat 0)), (.int .i64 (.ofNat 2)), (.string ⟨⟨[230, 159, 191]⟩⟩), (.int .i64 (.ofNat 1)), (.int .i64 (.ofNat 1)), (.int .i64 (.ofNat 40)), (.int .i64 (.ofNat 1)), (.int .i64 (.ofNat 0)), (.int .i64 (.ofNat 1)), (.string ⟨⟨[231, 167, 145]⟩⟩), (.int .i64 (.ofNat 1)), (.int .i64 (.ofNat 1)), (.int .i64 (.ofNat 20)), (.int .i64 (.ofNat 1)), (.int .i64 (.ofNat 0)), (.int .i64 (.ofNat 1)), (.string ⟨⟨[232, 154, 138]⟩⟩), (.int .i64 (.ofNat 1)), (.int .i64 (.ofNat 1)), (.int .i64 (.ofNat 30)), (.int .i64 (.ofNat 1)), (.int .i64 (.ofNat 0)), (.int .i64 (.ofNat 1)), (.string ⟨⟨[227, 129, 139]⟩⟩), (.int .i64 (.ofNat 1)), (.int .i64 (.ofNat 1)), (.int .i64 (.ofNat 10000)), (.int .i64 (.ofNat 3)), (.int .i64 (.ofNat 1)), (.int .i64 (.ofNat 2)), (.string ⟨⟨[227, 129, 141]⟩⟩), (.int .i64 (.ofNat 1)), (.int .i64 (.ofNat 1)), (.int .i64 (.ofNat 10000)), (.int .i64 (.ofNat 3))] 93 0 0 false,
     .cells [(.slice (some ⟨54, 0, none⟩) 4 4), (.slice (some ⟨55, 0, none⟩) 1 1)] 58 0 0 true,
     .map [] 0,
     .cells [(.int .i64 (.ofNat 0)), (.int .i64 (.ofNat 1)), (.int .i64 (.ofNat 2)), (.int .i64 (.ofNat 3))] 3 0 0 false,
     .cells [(.int .i64 (.ofNat 4))] 3 0 0 false] }
noncomputable def m20 : Memo := {
  gs := [(0, glob0), (1, glob1), (6, glob6)]
  args := [(.agg ⟨[(.slice (some ⟨10, 0, none⟩) 2 2), (.int .i64 (.ofNat 10)), (.slice none 0 0), (.slice (some ⟨11, 0, none⟩) 3 3), (.string ⟨⟨[227, 129, 139, 227, 129, 141]⟩⟩), (.slice none 0 0), (.slice none 0 0)]⟩)]
  ins := [.cells [(.string ⟨⟨[66, 79, 83]⟩⟩), (.int .i64 (.ofNat 0)), (.string ⟨⟨[110, 111, 117, 110]⟩⟩), (.int .i64 (.ofNat 0))] 67 0 0 true,
     .cells [(.string ⟨⟨[227, 129, 139]⟩⟩), (.string ⟨⟨[232, 154, 138]⟩⟩), (.int .i64 (.ofNat 1)), (.int .i64 (.ofNat 1)), (.int .i64 (.ofNat 30)), (.string ⟨⟨[227, 129, 139]⟩⟩), (.string ⟨⟨[231, 167, 145]⟩⟩), (.int .i64 (.ofNat 1)), (.int .i64 (.ofNat 1)), (.int .i64 (.ofNat 20)), (.string ⟨⟨[227, 129, 139, 227, 129, 141]⟩⟩), (.string ⟨⟨[230, 159, 191]⟩⟩), (.int .i64 (.ofNat 1)), (.int .i64 (.ofNat 1)), (.int .i64 (.ofNat 40))] 69 0 0 true]
  res := (.tuple ⟨[(.pointer (some ⟨12, 0, none⟩)), (.pointer (some ⟨13, 0, none⟩)), (.int .i64 (.ofNat 0))]⟩)
  outs := [.cells [(.slice (some ⟨14, 0, none⟩) 2 2), (.pointer (some ⟨15, 0, none⟩)), (.pointer (some ⟨16, 0, none⟩)), (.pointer (some ⟨17, 0, none⟩)), (.pointer (some ⟨18, 0, none⟩)), (.pointer (some ⟨19, 0, none⟩)), (.pointer (some ⟨20, 0, none⟩)), (.pointer (some ⟨21, 0, none⟩)), (.pointer (some ⟨22, 0, none⟩)), (.pointer (some ⟨23, 0, none⟩)), (.pointer (some ⟨24, 0, none⟩))] 138 0 0 true,
     .cells [(.pointer (some ⟨12, 0, none⟩)), (.string ⟨⟨[227, 129, 139, 227, 129, 141]⟩⟩), (.slice (some ⟨25, 0, none⟩) 5 5), (.slice (some ⟨26, 0, none⟩) 2 2), (.map (some 27))] 82 0 0 true,
     .cells [(.string ⟨⟨[66, 79, 83]⟩⟩), (.int .i64 (.ofNat 0)), (.string ⟨⟨[110, 111, 117, 110]⟩⟩), (.int .i64 (.ofNat 0))] 67 0 0 false,
     .cells [(.int .i64 (.ofNat 2)), (.int .i64 (.ofNat 10)), (.map (some 28))] 311 0 0 true,
     .cells [(.pointer (some ⟨29, 0, none⟩)), (.pointer (some ⟨30, 0, none⟩)), (.slice (some ⟨31, 0, none⟩) 6 6), (.pointer (some ⟨32, 0, none⟩)), (.slice (some ⟨33, 0, none⟩) 2 2)] 289 0 0 true,
     .cells [(.pointer (some ⟨34, 0, none⟩)), (.pointer (some ⟨35, 0, none⟩)), (.slice (some ⟨36, 0, none⟩) 9 9), (.pointer (some ⟨37, 0, none⟩)), (.slice (some ⟨38, 0, none⟩) 3 3)] 289 0 0 true,
     .cells [(.int .i64 (.ofNat 2)), (.int .i64 (.ofNat 2)), (.slice (some ⟨39, 0, none⟩) 1 1)] 332 0 0 true,
     .cells [(.int .i64 (.ofNat 3)), (.int .i64 (.ofNat 2)), (.slice (some ⟨40, 0, none⟩) 1 1)] 332 0 0 true,
     .cells [(.int .i64 (.ofNat 3)), (.int .i64 (.ofNat 1)), (.slice (some ⟨41, 0, none⟩) 1 1)] 332 0 0 true,
     .cells [(.int .i64 (.ofNat 3)), (.int .i64 (.ofNat 1)), (.slice (some ⟨42, 0, none⟩) 1 1)] 332 0 0 true,
     .cells [(.int .i64 (.ofNat 3)), (.int .i64 (.ofNat 6)), (.slice (some ⟨43, 0, none⟩) 1 1)] 332 0 0 true,
     .cells [(.int .i64 (.ofNat 3)), (.int .i64 (.ofNat 2)), (.slice (some ⟨44, 0, none⟩) 1 1)] 332 0 0 true,
     .cells [(.int .i64 (.ofNat 3)), (.int .i64 (.ofNat 2)), (.slice (some ⟨45, 0, none⟩) 1 1)] 332 0 0 true,
     .cells [(.int .i64 (.ofNat 0)), (.int .i64 (.ofNat 2)), (.string ⟨⟨[230, 159, 191]⟩⟩), (.int .i64 (.ofNat 1)), (.int .i64 (.ofNat 1)), (.int .i64 (.ofNat 40)), (.int .i64 (.ofNat 1)), (.int .i64 (.ofNat 0)), (.int .i64 (.ofNat 1)), (.string ⟨⟨[231, 167, 145]⟩⟩), (.int .i64 (.ofNat 1)), (.int .i64 (.ofNat 1)), (.int .i64 (.ofNat 20)), (.int .i64 (.ofNat 1)), (.int .i64 (.ofNat 0)), (.int .i64 (.ofNat 1)), (.string ⟨⟨[232, 154, 138]⟩⟩), (.int .i64 (.ofNat 1)), (.int .i64 (.ofNat 1)), (.int .i64 (.ofNat 30)), (.int .i64 (.ofNat 1)), (.int .i64 (.ofNat 0)), (.int .i64 (.ofNat 1)), (.string ⟨⟨[227, 129, 139]⟩⟩), (.int .i64 (.ofNat 1)), (.int .i64 (.ofNat 1)), (.int .i64 (.ofNat 10000)), (.int .i64 (.ofNat 3)), (.int .i64 (.ofNat 1)), (.int .i64 (.ofNat 2)), (.string ⟨⟨[227, 129, 141]⟩⟩), (.int .i64 (.ofNat 1)), (.int .i64 (.ofNat 1)), (.int .i64 (.ofNat 10000)), (.int .i64 (.ofNat 3))] 93 0 0 false,
     .cells [(.slice (some ⟨46, 0, none⟩) 4 4), (.slice (some ⟨47, 0, none⟩) 1 1)] 58 0 0 true,
     .map [] 0,
     .map [] 0,
     .cells [(.int .i64 (.ofNat 15)), (.slice (some ⟨48, 0, none⟩) 1 1), (.slice (some ⟨49, 0, none⟩) 1 1)] 365 0 0 true,
     .cells [(.int .i64 (.ofNat 7)), (.slice (some ⟨50, 0, none⟩) 1 1), (.slice (some ⟨51, 0, none⟩) 1 1)] 365 0 0 true,
     .cells (bs [227, 129, 139, 227, 129, 141]) 5 0 0 false,
     .cells [(.int .i64 (.ofNat 2)), (.int .i64 (.ofNat 1)), (.slice (some ⟨52, 0, none⟩) 1 1)] 332 0 0 true,
     .cells [(.int .i64 (.ofNat 3)), (.int .i64 (.ofNat 6))] 3 0 0 true,
     .cells [(.int .i64 (.ofNat 21)), (.slice (some ⟨53, 0, none⟩) 1 1), (.slice (some ⟨54, 0, none⟩) 1 1)] 365 0 0 true,
     .cells [(.int .i64 (.ofNat 10)), (.slice (some ⟨55, 0, none⟩) 1 1), (.slice (some ⟨56, 0, none⟩) 1 1)] 365 0 0 true,
     .cells (bs [230, 231, 232, 159, 167, 154, 191, 145, 138]) 5 0 0 false,
     .cells [(.int .i64 (.ofNat 3)), (.int .i64 (.ofNat 2)), (.slice (some ⟨57, 0, none⟩) 1 1)] 332 0 0 true,
     .cells [(.int .i64 (.ofNat 7)), (.int .i64 (.ofNat 8)), (.int .i64 (.ofNat 9))] 3 0 0 true,
     .cells [(.int .u64 (.ofNat 8))] 226 0 0 true,
     .cells [(.int .u64 (.ofNat 9))] 226 0 0 true,
     .cells [(.int .u64 (.ofNat 7))] 226 0 0 true,
     .cells [(.int .u64 (.ofNat 7))] 226 0 0 true,
     .cells [(.int .u64 (.ofNat 165780))] 226 0 0 true,
     .cells [(.int .u64 (.ofNat 18))] 226 0 0 true,
     .cells [(.int .u64 (.ofNat 36))] 226 0 0 true,
     .cells [(.int .i64 (.ofNat 0)), (.int .i64 (.ofNat 1)), (.int .i64 (.ofNat 2)), (.int .i64 (.ofNat 3))] 3 0 0 false,
     .cells [(.int .i64 (.ofNat 4))] 3 0 0 false,
     .cells [(.int .u64 (.ofNat 5461))] 226 0 0 true,
     .cells [(.int .i64 (.ofNat 0))] 3 0 0 false,
     .cells [(.int .u64 (.ofNat 72))] 226 0 0 true,
     .cells [(.int .i64 (.ofNat 0))] 3 0 0 false,
     .cells [(.int .u64 (.ofNat 2))] 226 0 0 true,
     .cells [(.int .u64 (.ofNat 87389))] 226 0 0 true,
     .cells [(.int .i64 (.ofNat 0))] 3 0 0 false,
     .cells [(.int .u64 (.ofNat 896))] 226 0 0 true,
     .cells [(.int .i64 (.ofNat 0))] 3 0 0 false,
     .cells [(.int .u64 (.ofNat 36))] 226 0 0 true] }
noncomputable def m21 : Memo := {
  gs := [(0, glob0), (1, glob1)]
  args := [(.pointer (some ⟨10, 0, none⟩)), (.agg ⟨[(.int .i64 (.ofNat 0)), (.int .i64 (.ofNat 2))]⟩), (.int .i64 (.ofNat 0)), (.int .i64 (.ofNat 0)), (.int .i64 (.ofNat 1)), (.int .i64 (.ofNat 2))]
  ins := [.cells [(.pointer (some ⟨11, 0, none⟩)), (.string ⟨⟨[227, 129, 139, 227, 129, 141]⟩⟩), (.slice (some ⟨12, 0, none⟩) 5 5), (.slice (some ⟨13, 0, none⟩) 2 2), (.map (some 14))] 82 0 0 true,
     .cells [(.slice (some ⟨15, 0, none⟩) 2 2), (.pointer (some ⟨16, 0, none⟩)), (.pointer (some ⟨17, 0, none⟩)), (.pointer (some ⟨18, 0, none⟩)), (.pointer (some ⟨19, 0, none⟩)), (.pointer (some ⟨20, 0, none⟩)), (.pointer (some ⟨21, 0, none⟩)), (.pointer (some ⟨22, 0, none⟩)), (.pointer (some ⟨23, 0, none⟩)), (.pointer (some ⟨24, 0, none⟩)), (.pointer (some ⟨25, 0, none⟩))] 138 0 0 true,
     .cells [(.int .i64 (.ofNat 0)), (.int .i64 (.ofNat 2)), (.string ⟨⟨[230, 159, 191]⟩⟩), (.int .i64 (.ofNat 1)), (.int .i64 (.ofNat 1)), (.int .i64 (.ofNat 40)), (.int .i64 (.ofNat 1)), (.int .i64 (.ofNat 0)), (.int .i64 (.ofNat 1)), (.string ⟨⟨[231, 167, 145]⟩⟩), (.int .i64 (.ofNat 1)), (.int .i64 (.ofNat 1)), (.int .i64 (.ofNat 20)), (.int .i64 (.ofNat 1)), (.int .i64 (.ofNat 0)), (.int .i64 (.ofNat 1)), (.string ⟨⟨[232, 154, 138]⟩⟩), (.int .i64 (.ofNat 1)), (.int .i64 (.ofNat 1)), (.int .i64 (.ofNat 30)), (.int .i64 (.ofNat 1)), (.int .i64 (.ofNat 0)), (.int .i64 (.ofNat 1)), (.string ⟨⟨[227, 129, 139]⟩⟩), (.int .i64 (.ofNat 1)), (.int .i64 (.ofNat 1)), (.int .i64 (.ofNat 10000)), (.int .i64 (.ofNat 3)), (.int .i64 (.ofNat 1)), (.int .i64 (.ofNat 2)), (.string ⟨⟨[227, 129, 141]⟩⟩), (.int .i64 (.ofNat 1)), (.int .i64 (.ofNat 1)), (.int .i64 (.ofNat 10000)), (.int .i64 (.ofNat 3))] 93 0 0 false,
     .cells [(.slice (some ⟨26, 0, none⟩) 4 4), (.slice (some ⟨27, 0, none⟩) 1 1)] 58 0 0 true,
     .map [] 0,
     .cells [(.string ⟨⟨[66, 79, 83]⟩⟩), (.int .i64 (.ofNat 0)), (.string ⟨⟨[110, 111, 117, 110]⟩⟩), (.int .i64 (.ofNat 0))] 67 0 0 false,
     .cells [(.int .i64 (.ofNat 2)), (.int .i64 (.ofNat 10)), (.map (some 28))] 311 0 0 true,
     .cells [(.pointer (some ⟨29, 0, none⟩)), (.pointer (some ⟨30, 0, none⟩)), (.slice (some ⟨31, 0, none⟩) 6 6), (.pointer (some ⟨32, 0, none⟩)), (.slice (some ⟨33, 0, none⟩) 2 2)] 289 0 0 true,
     .cells [(.pointer (some ⟨34, 0, none⟩)), (.pointer (some ⟨35, 0, none⟩)), (.slice (some ⟨36, 0, none⟩) 9 9), (.pointer (some ⟨37, 0, none⟩)), (.slice (some ⟨38, 0, none⟩) 3 3)] 289 0 0 true,
     .cells [(.int .i64 (.ofNat 2)), (.int .i64 (.ofNat 2)), (.slice (some ⟨39, 0, none⟩) 1 1)] 332 0 0 true,
     .cells [(.int .i64 (.ofNat 3)), (.int .i64 (.ofNat 2)), (.slice (some ⟨40, 0, none⟩) 1 1)] 332 0 0 true,
     .cells [(.int .i64 (.ofNat 3)), (.int .i64 (.ofNat 1)), (.slice (some ⟨41, 0, none⟩) 1 1)] 332 0 0 true,
     .cells [(.int .i64 (.ofNat 3)), (.int .i64 (.ofNat 1)), (.slice (some ⟨42, 0, none⟩) 1 1)] 332 0 0 true,
     .cells [(.int .i64 (.ofNat 3)), (.int .i64 (.ofNat 6)), (.slice (some ⟨43, 0, none⟩) 1 1)] 332 0 0 true,
     .cells [(.int .i64 (.ofNat 3)), (.int .i64 (.ofNat 2)), (.slice (some ⟨44, 0, none⟩) 1 1)] 332 0 0 true,
     .cells [(.int .i64 (.ofNat 3)), (.int .i64 (.ofNat 2)), (.slice (some ⟨45, 0, none⟩) 1 1)] 332 0 0 true,
     .cells [(.int .i64 (.ofNat 0)), (.int .i64 (.ofNat 1)), (.int .i64 (.ofNat 2)), (.int .i64 (.ofNat 3))] 3 0 0 false,
     .cells [(.int .i64 (.ofNat 4))] 3 0 0 false,
     .map [] 0,
     .cells [(.int .i64 (.ofNat 15)), (.slice (some ⟨46, 0, none⟩) 1 1), (.slice (some ⟨47, 0, none⟩) 1 1)] 365 0 0 true,
     .cells [(.int .i64 (.ofNat 7)), (.slice (some ⟨48, 0, none⟩) 1 1), (.slice (some ⟨49, 0, none⟩) 1 1)] 365 0 0 true,
     .cells (bs [227, 129, 139, 227, 129, 141]) 5 0 0 false,
     .cells [(.int .i64 (.ofNat 2)), (.int .i64 (.ofNat 1)), (.slice (some ⟨50, 0, none⟩) 1 1)] 332 0 0 true,
     .cells [(.int .i64 (.ofNat 3)), (.int .i64 (.ofNat 6))] 3 0 0 true,
     .cells [(.int .i64 (.ofNat 21)), (.slice (some ⟨51, 0, none⟩) 1 1), (.slice (some ⟨52, 0, none⟩) 1 1)] 365 0 0 true,
     .cells [(.int .i64 (.ofNat 10)), (.slice (some ⟨53, 0, none⟩) 1 1), (.slice (some ⟨54, 0, none⟩) 1 1)] 365 0 0 true,
     .cells (bs [230, 231, 232, 159, 167, 154, 191, 145, 138]) 5 0 0 false,
     .cells [(.int .i64 (.ofNat 3)), (.int .i64 (.ofNat 2)), (.slice (some ⟨55, 0, none⟩) 1 1)] 332 0 0 true,
     .cells [(.int .i64 (.ofNat 7)), (.int .i64 (.ofNat 8)), (.int .i64 (.ofNat 9))] 3 0 0 true,
     .cells [(.int .u64 (.ofNat 8))] 226 0 0 true,
     .cells [(.int .u64 (.ofNat 9))] 226 0 0 true,
     .cells [(.int .u64 (.ofNat 7))] 226 0 0 true,
     .cells [(.int .u64 (.ofNat 7))] 226 0 0 true,
     .cells [(.int .u64 (.ofNat 165780))] 226 0 0 true,
     .cells [(.int .u64 (.ofNat 18))] 226 0 0 true,
     .cells [(.int .u64 (.ofNat 36))] 226 0 0 true,
     .cells [(.int .u64 (.ofNat 5461))] 226 0 0 true,
     .cells [(.int .i64 (.ofNat 0))] 3 0 0 false,
     .cells [(.int .u64 (.ofNat 72))] 226 0 0 true,
     .cells [(.int .i64 (.ofNat 0))] 3 0 0 false,
     .cells [(.int .u64 (.ofNat 2))] 226 0 0 true,
     .cells [(.int .u64 (.ofNat 87389))] 226 0 0 true,
     .cells [(.int .i64 (.ofNat 0))] 3 0 0 false,
     .cells [(.int .u64 (.ofNat 896))] 226 0 0 true,
     .cells [(.int .i64 (.ofNat 0))] 3 0 0 false,
     .cells [(.int .u64 (.ofNat 36))] 226 0 0 true]
  res := (.slice (some ⟨56, 0, none⟩) 2 2)
  outs := [.cells [(.string ⟨⟨[230, 159, 191]⟩⟩), (.int .i64 (.ofNat 1)), (.string ⟨⟨[231, 167, 145, 227, 129, 141]⟩⟩), (.int .i64 (.ofNat 1))] 51 0 0 false] }
noncomputable def m22 : Memo := {
  gs := [(0, glob0), (1, glob1)]
  args := [(.pointer (some ⟨10, 0, none⟩)), (.agg ⟨[(.int .i64 (.ofNat 0)), (.int .i64 (.ofNat 2))]⟩), (.int .i64 (.ofNat 0)), (.int .i64 (.ofNat 0)), (.int .i64 (.ofNat 1)), (.int .i64 (.ofNat 60))]
  ins := [.cells [(.pointer (some ⟨11, 0, none⟩)), (.string ⟨⟨[227, 129, 139, 227, 129, 141]⟩⟩), (.slice (some ⟨12, 0, none⟩) 5 5), (.slice (some ⟨13, 0, none⟩) 2 2), (.map (some 14))] 82 0 0 true,
     .cells [(.slice (some ⟨15, 0, none⟩) 2 2), (.pointer (some ⟨16, 0, none⟩)), (.pointer (some ⟨17, 0, none⟩)), (.pointer (some ⟨18, 0, none⟩)), (.pointer (some ⟨19, 0, none⟩)), (.pointer (some ⟨20, 0, none⟩)), (.pointer (some ⟨21, 0, none⟩)), (.pointer (some ⟨22, 0, none⟩)), (.pointer (some ⟨23, 0, none⟩)), (.pointer (some ⟨24, 0, none⟩)), (.pointer (some ⟨25, 0, none⟩))] 138 0 0 true,
     .cells [(.int .i64 (.ofNat 0)), (.int .i64 (.ofNat 2)), (.string ⟨⟨[230, 159, 191]⟩⟩), (.int .i64 (.ofNat 1)), (.int .i64 (.ofNat 1)), (.int .i64 (.ofNat 40)), (.int .i64 (.ofNat 1)), (.int .i64 (.ofNat 0)), (.int .i64 (.ofNat 1)), (.string ⟨⟨[231, 167, 145]⟩⟩), (.int .i64 (.ofNat 1)), (.int .i64 (.ofNat 1)), (.int .i64 (.ofNat 20)), (.int .i64 (.ofNat 1)), (.int .i64 (.ofNat 0)), (.int .i64 (.ofNat 1)), (.string ⟨⟨[232, 154, 138]⟩⟩), (.int .i64 (.ofNat 1)), (.int .i64 (.ofNat 1)), (.int .i64 (.ofNat 30)), (.int .i64 (.ofNat 1)), (.int .i64 (.ofNat 0)), (.int .i64 (.ofNat 1)), (.string ⟨⟨[227, 129, 139]⟩⟩), (.int .i64 (.ofNat 1)), (.int .i64 (.ofNat 1)), (.int .i64 (.ofNat 10000)), (.int .i64 (.ofNat 3)), (.int .i64 (.ofNat 1)), (.int .i64 (.ofNat 2)), (.string ⟨⟨[227, 129, 141]⟩⟩), (.int .i64 (.ofNat 1)), (.int .i64 (.ofNat 1)), (.int .i64 (.ofNat 10000)), (.int .i64 (.ofNat 3))] 93 0 0 false,
     .cells [(.slice (some ⟨26, 0, none⟩) 4 4), (.slice (some ⟨27, 0, none⟩) 1 1)] 58 0 0 true,
     .map [] 0,
     .cells [(.string ⟨⟨[66, 79, 83]⟩⟩), (.int .i64 (.ofNat 0)), (.string ⟨⟨[110, 111, 117, 110]⟩⟩), (.int .i64 (.ofNat 0))] 67 0 0 false,
     .cells [(.int .i64 (.ofNat 2)), (.int .i64 (.ofNat 10)), (.map (some 28))] 311 0 0 true,
     .cells [(.pointer (some ⟨29, 0, none⟩)), (.pointer (some ⟨30, 0, none⟩)), (.slice (some ⟨31, 0, none⟩) 6 6), (.pointer (some ⟨32, 0, none⟩)), (.slice (some ⟨33, 0, none⟩) 2 2)] 289 0 0 true,
     .cells [(.pointer (some ⟨34, 0, none⟩)), (.pointer (some ⟨35, 0, none⟩)), (.slice (some ⟨36, 0, none⟩) 9 9), (.pointer (some ⟨37, 0, none⟩)), (.slice (some ⟨38, 0, none⟩) 3 3)] 289 0 0 true,
     .cells [(.int .i64 (.ofNat 2)), (.int .i64 (.ofNat 2)), (.slice (some ⟨39, 0, none⟩) 1 1)] 332 0 0 true,
     .cells [(.int .i64 (.ofNat 3)), (.int .i64 (.ofNat 2)), (.slice (some ⟨40, 0, none⟩) 1 1)] 332 0 0 true,
     .cells [(.int .i64 (.ofNat 3)), (.int .i64 (.ofNat 1)), (.slice (some ⟨41, 0, none⟩) 1 1)] 332 0 0 true,
     .cells [(.int .i64 (.ofNat 3)), (.int .i64 (.ofNat 1)), (.slice (some ⟨42, 0, none⟩) 1 1)] 332 0 0 true,
     .cells [(.int .i64 (.ofNat 3)), (.int .i64 (.ofNat 6)), (.slice (some ⟨43, 0, none⟩) 1 1)] 332 0 0 true,
     .cells [(.int .i64 (.ofNat 3)), (.int .i64 (.ofNat 2)), (.slice (some ⟨44, 0, none⟩) 1 1)] 332 0 0 true,
     .cells [(.int .i64 (.ofNat 3)), (.int .i64 (.ofNat 2)), (.slice (some ⟨45, 0, none⟩) 1 1)] 332 0 0 true,
     .cells [(.int .i64 (.ofNat 0)), (.int .i64 (.ofNat 1)), (.int .i64 (.ofNat 2)), (.int .i64 (.ofNat 3))] 3 0 0 false,
     .cells [(.int .i64 (.ofNat 4))] 3 0 0 false,
     .map [] 0,
     .cells [(.int .i64 (.ofNat 15)), (.slice (some ⟨46, 0, none⟩) 1 1), (.slice (some ⟨47, 0, none⟩) 1 1)] 365 0 0 true,
     .cells [(.int .i64 (.ofNat 7)), (.slice (some ⟨48, 0, none⟩) 1 1), (.slice (some ⟨49, 0, none⟩) 1 1)] 365 0 0 true,
     .cells (bs [227, 129, 139, 227, 129, 141]) 5 0 0 false,
     .cells [(.int .i64 (.ofNat 2)), (.int .i64 (.ofNat 1)), (.slice (some ⟨50, 0, none⟩) 1 1)] 332 0 0 true,
     .cells [(.int .i64 (.ofNat 3)), (.int .i64 (.ofNat 6))] 3 0 0 true,
     .cells [(.int .i64 (.ofNat 21)), (.slice (some ⟨51, 0, none⟩) 1 1), (.slice (some ⟨52, 0, none⟩) 1 1)] 365 0 0 true,
     .cells [(.int .i64 (.ofNat 10)), (.slice (some ⟨53, 0, none⟩) 1 1), (.slice (some ⟨54, 0, none⟩) 1 1)] 365 0 0 true,
     .cells (bs [230, 231, 232, 159, 167, 154, 191, 145, 138]) 5 0 0 false,
     .cells [(.int .i64 (.ofNat 3)), (.int .i64 (.ofNat 2)), (.slice (some ⟨55, 0, none⟩) 1 1)] 332 0 0 true,
     .cells [(.int .i64 (.ofNat 7)), (.int .i64 (.ofNat 8)), (.int .i64 (.ofNat 9))] 3 0 0 true,
     .cells [(.int .u64 (.ofNat 8))] 226 0 0 true,
     .cells [(.int .u64 (.ofNat 9))] 226 0 0 true,
     .cells [(.int .u64 (.ofNat 7))] 226 0 0 true,
     .cells [(.int .u64 (.ofNat 7))] 226 0 0 true,
     .cells [(.int .u64 (.ofNat 165780))] 226 0 0 true,
     .cells [(.int .u64 (.ofNat 18))] 226 0 0 true,
     .cells [(.int .u64 (.ofNat 36))] 226 0 0 true,
     .cells [(.int .u64 (.ofNat 5461))] 226 0 0 true,
     .cells [(.int .i64 (.ofNat 0))] 3 0 0 false,
     .cells [(.int .u64 (.ofNat 72))] 226 0 0 true,
     .cells [(.int .i64 (.ofNat 0))] 3 0 0 false,
     .cells [(.int .u64 (.ofNat 2))] 226 0 0 true,
     .cells [(.int .u64 (.ofNat 87389))] 226 0 0 true,
     .cells [(.int .i64 (.ofNat 0))] 3 0 0 false,
     .cells [(.int .u64 (.ofNat 896))] 226 0 0 true,
     .cells [(.int .i64 (.ofNat 0))] 3 0 0 false,
     .cells [(.int .u64 (.ofNat 36))] 226 0 0 true]
  res := (.slice (some ⟨56, 0, none⟩) 6 6)
  outs := [.cells [(.string ⟨⟨[230, 159, 191]⟩⟩), (.int .i64 (.ofNat 1)), (.string ⟨⟨[231, 167, 145, 227, 129, 141]⟩⟩), (.int .i64 (.ofNat 1)), (.string ⟨⟨[232, 154, 138, 227, 129, 141]⟩⟩), (.int .i64 (.ofNat 1)), (.string ⟨⟨[227, 129, 139, 227, 129, 141]⟩⟩), (.int .i64 (.ofNat 1)), (.string ⟨⟨[227, 130, 171, 227, 130, 173]⟩⟩), (.int .i64 (.ofNat 3)), (.string ⟨⟨[239, 189, 182, 239, 189, 183]⟩⟩), (.int .i64 (.ofNat 3))] 51 0 0 false] }
noncomputable def m23 : Memo := {
  gs := [(0, glob0), (1, glob1), (6, glob6)]
  args := []
  ins := []
  res := (.bool true)
  outs := [] }
noncomputable def m24 : Memo := {
  gs := [(0, glob0), (1, glob1), (6, glob6)]
  args := []
  ins := []
  res := (.bool true)
  outs := [] }
end Go.Ev
