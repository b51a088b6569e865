/- What the program says of its types, as closed facts. -/
import Derived.Test.YtmdpmpdlkaogdaaGreatDoorProg
import Derived.Test.YtmdpmpdlkaogdaaGreatDoorVn
import Derived.KernelRfl
namespace Go.Proofs.YtmdpmpdlkaogdaaGreatDoor
open Go Go.RowKit Vc
noncomputable abbrev P : Program := Tryz.prog
theorem u_bool : P.underlying 4 = some .bool := Tryz.underlying4
theorem u_int : P.underlying 3 = some (.int .i64) := Tryz.underlying3
theorem u_u8 : P.underlying 5 = some (.int .u8) := Tryz.underlying5
theorem u_str : P.underlying 9 = some .string := Tryz.underlying9
theorem u_bytes : P.underlying 25 = some (.slice 5) := Tryz.underlying25
theorem u_strs : P.underlying 46 = some (.slice 9) := Tryz.underlying46
theorem u_files : P.underlying 22 = some (.slice 45) := Tryz.underlying22
theorem u_pTree : P.underlying 51 = some (.pointer 100) := Tryz.underlying51
theorem u_pNode : P.underlying 102 = some (.pointer 104) := Tryz.underlying102
theorem u_mNode : P.underlying 98 = some (.map 9 102) := Tryz.underlying98
theorem u_mInt : P.underlying 123 = some (.map 9 3) := Tryz.underlying123
theorem el_bytes : ElT P 25 5 (.int .u8 0) 1 1 := ⟨u_bytes, by kernel_rfl, rfl, by decide⟩
theorem el_strs : ElT P 46 9 (.string ⟨#[]⟩) 1 16 := ⟨u_strs, by kernel_rfl, rfl, by decide⟩
theorem el_files : ElT P 22 45 (.agg #[.string ⟨#[]⟩, .bool false, .slice none 0 0]) 3 48 := ⟨u_files, by kernel_rfl, rfl, by decide⟩
theorem sz_bool : szB P 4 = some 1 := by kernel_rfl
theorem sz_int : szB P 3 = some 1 := by kernel_rfl
theorem sz_u8 : szB P 5 = some 1 := by kernel_rfl
theorem sz_str : szB P 9 = some 1 := by kernel_rfl
theorem sz_File : szB P 45 = some 3 := by kernel_rfl
theorem sz_Node : szB P 104 = some 2 := by kernel_rfl
theorem sz_Tree : szB P 100 = some 2 := by kernel_rfl
theorem ag_bool : aggB P 4 = some false := by kernel_rfl
theorem ag_int : aggB P 3 = some false := by kernel_rfl
theorem ag_u8 : aggB P 5 = some false := by kernel_rfl
theorem ag_str : aggB P 9 = some false := by kernel_rfl
theorem ag_bytes : aggB P 25 = some false := by kernel_rfl
theorem ag_strs : aggB P 46 = some false := by kernel_rfl
theorem ag_mNode : aggB P 98 = some false := by kernel_rfl
theorem ag_File : aggB P 45 = some true := by kernel_rfl
theorem ag_Node : aggB P 104 = some true := by kernel_rfl
theorem ag_Tree : aggB P 100 = some true := by kernel_rfl
theorem fl_Tree_0 : fldB P 100 0 = some 0 := by kernel_rfl
theorem fl_Tree_1 : fldB P 100 1 = some 1 := by kernel_rfl
theorem fl_Node_0 : fldB P 104 0 = some 0 := by kernel_rfl
theorem fl_Node_1 : fldB P 104 1 = some 1 := by kernel_rfl
theorem fl_File_0 : fldB P 45 0 = some 0 := by kernel_rfl
theorem fl_File_1 : fldB P 45 1 = some 1 := by kernel_rfl
theorem fl_File_2 : fldB P 45 2 = some 2 := by kernel_rfl
theorem ze_pNode : zeroB P 102 = some (.pointer none) := by kernel_rfl
theorem u_Errno : P.underlying 32 = some (.int .i64) := Tryz.underlying32
theorem ag_Errno : aggB P 32 = some false := by kernel_rfl
theorem sz_Errno : szB P 32 = some 1 := by kernel_rfl
theorem sz_strs : szB P 46 = some 1 := by kernel_rfl
theorem sz_bytes : szB P 25 = some 1 := by kernel_rfl
theorem ze_Errno : zeroB P 32 = some (.int .i64 0) := by kernel_rfl
theorem ze_strs : zeroB P 46 = some (.slice none 0 0) := by kernel_rfl
theorem ze_int : zeroB P 3 = some (.int .i64 0) := by kernel_rfl
theorem u_bss : P.underlying 31 = some (.slice 25) := Tryz.underlying31
theorem ag_Move : aggB P 118 = some true := by kernel_rfl
theorem sz_Move : szB P 118 = some 4 := by kernel_rfl
theorem ze_Move : zeroB P 118 = some (.agg #[.slice none 0 0, .slice none 0 0, .slice none 0 0, .int .i64 0]) := by kernel_rfl
theorem fl_Move_0 : fldB P 118 0 = some 0 := by kernel_rfl
theorem fl_Move_1 : fldB P 118 1 = some 1 := by kernel_rfl
theorem fl_Move_2 : fldB P 118 2 = some 2 := by kernel_rfl
theorem fl_Move_3 : fldB P 118 3 = some 3 := by kernel_rfl
theorem ze_Node : zeroB P 104 = some (.agg #[.bool false, .slice none 0 0]) := by kernel_rfl
end Go.Proofs.YtmdpmpdlkaogdaaGreatDoor
