/- Texts put together: Ne. -/
import Derived.Test.YtkogbobplhebaaaGreatDoorProg
import Derived.KernelRfl
import Derived.Test.YtkogbobplhebaaaGreatDoorQd
set_option linter.unusedVariables false
set_option linter.unusedSimpArgs false
set_option linter.unusedSectionVars false
namespace Go.Proofs.YtkogbobplhebaaaGreatDoor
open Go.SX

def tiN (T : Nat) : Option TI :=
  match T with
  | 2 => some ⟨.int .i64, 1, 8, [.int .i64 (.l 0)], [.bool fun _ => false]⟩
  | 3 => some ⟨.int .i64, 1, 8, [.int .i64 (.l 0)], [.bool fun _ => false]⟩
  | 4 => some ⟨.bool, 1, 1, [.bool .f], [.bool fun _ => false]⟩
  | 5 => some ⟨.int .u8, 1, 1, [.int .u8 (.l 0)], [.bool fun _ => false]⟩
  | 9 => some ⟨.string, 1, 16, [.str fun _ => []], [.bool fun _ => false]⟩
  | 12 => some ⟨.int .u64, 1, 8, [.int .u64 (.l 0)], [.bool fun _ => false]⟩
  | 21 => some ⟨.int .i32, 1, 4, [.int .i32 (.l 0)], [.bool fun _ => false]⟩
  | 22 => some ⟨.int .u8, 1, 1, [.int .u8 (.l 0)], [.bool fun _ => false]⟩
  | 23 => some ⟨.slice 5, 1, 24, [.nil], [.bytes fun _ => []]⟩
  | 24 => some ⟨.slice 27, 1, 24, [.nil], [.sl 7 (fun _ => 0) fun _ _ => .bool fun _ => false]⟩
  | 25 => some ⟨.slice 132, 1, 24, [.nil], [.sl 8 (fun _ => 0) fun _ _ => .bool fun _ => false]⟩
  | 27 => some ⟨.struct [(22, 0), (4, 1), (2, 2), (9, 3), (23, 4), (24, 5), (25, 6)], 7, 104, [.int .u8 (.l 0), .bool .f, .int .i64 (.l 0), .str fun _ => [], .nil, .nil, .nil], [.bool fun _ => false, .bool fun _ => false, .bool fun _ => false, .bool fun _ => false, .bytes fun _ => [], .sl 7 (fun _ => 0) fun _ _ => .bool fun _ => false, .sl 8 (fun _ => 0) fun _ _ => .bool fun _ => false]⟩
  | 28 => some ⟨.struct [(5, 0), (9, 1), (27, 2), (27, 9)], 16, 232, [.int .u8 (.l 0), .str fun _ => [], .int .u8 (.l 0), .bool .f, .int .i64 (.l 0), .str fun _ => [], .nil, .nil, .nil, .int .u8 (.l 0), .bool .f, .int .i64 (.l 0), .str fun _ => [], .nil, .nil, .nil], [.bool fun _ => false, .bool fun _ => false, .bool fun _ => false, .bool fun _ => false, .bool fun _ => false, .bool fun _ => false, .bytes fun _ => [], .sl 7 (fun _ => 0) fun _ _ => .bool fun _ => false, .sl 8 (fun _ => 0) fun _ _ => .bool fun _ => false, .bool fun _ => false, .bool fun _ => false, .bool fun _ => false, .bool fun _ => false, .bytes fun _ => [], .sl 7 (fun _ => 0) fun _ _ => .bool fun _ => false, .sl 8 (fun _ => 0) fun _ _ => .bool fun _ => false]⟩
  | 29 => some ⟨.struct [(5, 0), (9, 1), (27, 2), (27, 9)], 16, 232, [.int .u8 (.l 0), .str fun _ => [], .int .u8 (.l 0), .bool .f, .int .i64 (.l 0), .str fun _ => [], .nil, .nil, .nil, .int .u8 (.l 0), .bool .f, .int .i64 (.l 0), .str fun _ => [], .nil, .nil, .nil], [.bool fun _ => false, .bool fun _ => false, .bool fun _ => false, .bool fun _ => false, .bool fun _ => false, .bool fun _ => false, .bytes fun _ => [], .sl 7 (fun _ => 0) fun _ _ => .bool fun _ => false, .sl 8 (fun _ => 0) fun _ _ => .bool fun _ => false, .bool fun _ => false, .bool fun _ => false, .bool fun _ => false, .bool fun _ => false, .bytes fun _ => [], .sl 7 (fun _ => 0) fun _ _ => .bool fun _ => false, .sl 8 (fun _ => 0) fun _ _ => .bool fun _ => false]⟩
  | 34 => some ⟨.int .u16, 1, 2, [.int .u16 (.l 0)], [.bool fun _ => false]⟩
  | 77 => some ⟨.other, 1, 8, [.val (.pointer none)], [.bool fun _ => false]⟩
  | 85 => some ⟨.struct [], 0, 0, [], []⟩
  | 88 => some ⟨.other, 1, 8, [.val (.pointer none)], [.bool fun _ => false]⟩
  | 95 => some ⟨.other, 1, 8, [.val .nilFunc], [.bool fun _ => false]⟩
  | 97 => some ⟨.other, 1, 8, [.val .nilFunc], [.bool fun _ => false]⟩
  | 98 => some ⟨.other, 1, 8, [.val .nilFunc], [.bool fun _ => false]⟩
  | 103 => some ⟨.int .u64, 1, 8, [.int .u64 (.l 0)], [.bool fun _ => false]⟩
  | 132 => some ⟨.struct [(9, 0), (27, 1)], 8, 120, [.str fun _ => [], .int .u8 (.l 0), .bool .f, .int .i64 (.l 0), .str fun _ => [], .nil, .nil, .nil], [.bool fun _ => false, .bool fun _ => false, .bool fun _ => false, .bool fun _ => false, .bool fun _ => false, .bytes fun _ => [], .sl 7 (fun _ => 0) fun _ _ => .bool fun _ => false, .sl 8 (fun _ => 0) fun _ _ => .bool fun _ => false]⟩
  | 141 => some ⟨.struct [(23, 0)], 1, 24, [.nil], [.bytes fun _ => []]⟩
  | 146 => some ⟨.struct [(23, 0), (3, 1), (34, 2), (3, 3)], 4, 48, [.nil, .int .i64 (.l 0), .int .u16 (.l 0), .int .i64 (.l 0)], [.bytes fun _ => [], .bool fun _ => false, .bool fun _ => false, .bool fun _ => false]⟩
  | 157 => some ⟨.other, 1, 8, [.val .nilFunc], [.bool fun _ => false]⟩
  | 161 => some ⟨.int .u64, 1, 8, [.int .u64 (.l 0)], [.bool fun _ => false]⟩
  | 170 => some ⟨.int .u32, 1, 4, [.int .u32 (.l 0)], [.bool fun _ => false]⟩
  | 174 => some ⟨.slice 176, 1, 24, [.nil], [.sl 2 (fun _ => 0) fun _ _ => .bool fun _ => false]⟩
  | 193 => some ⟨.slice 195, 1, 24, [.nil], [.sl 6 (fun _ => 0) fun _ _ => .bool fun _ => false]⟩
  | 195 => some ⟨.struct [(9, 0), (170, 1), (174, 2), (4, 3), (5, 4), (23, 5)], 6, 80, [.str fun _ => [], .int .u32 (.l 0), .nil, .bool .f, .int .u8 (.l 0), .nil], [.bool fun _ => false, .bool fun _ => false, .sl 2 (fun _ => 0) fun _ _ => .bool fun _ => false, .bool fun _ => false, .bool fun _ => false, .bytes fun _ => []]⟩
  | 204 => some ⟨.struct [(9, 0), (170, 1), (9, 2), (193, 3)], 4, 64, [.str fun _ => [], .int .u32 (.l 0), .str fun _ => [], .nil], [.bool fun _ => false, .bool fun _ => false, .bool fun _ => false, .sl 6 (fun _ => 0) fun _ _ => .bool fun _ => false]⟩
  | 207 => some ⟨.other, 1, 8, [.val .nilFunc], [.bool fun _ => false]⟩
  | 208 => some ⟨.slice 132, 1, 24, [.nil], [.sl 8 (fun _ => 0) fun _ _ => .bool fun _ => false]⟩
  | 214 => some ⟨.other, 1, 8, [.val .nilFunc], [.bool fun _ => false]⟩
  | 217 => some ⟨.other, 1, 8, [.val .nilFunc], [.bool fun _ => false]⟩
  | 222 => some ⟨.other, 1, 8, [.val (.pointer none)], [.bool fun _ => false]⟩
  | 224 => some ⟨.struct [(88, 0), (4, 1)], 2, 16, [.val (.pointer none), .bool .f], [.bool fun _ => false, .bool fun _ => false]⟩
  | 226 => some ⟨.other, 1, 8, [.val .nilFunc], [.bool fun _ => false]⟩
  | 232 => some ⟨.struct [], 0, 0, [], []⟩
  | 233 => some ⟨.bool, 1, 1, [.bool .f], [.bool fun _ => false]⟩
  | 234 => some ⟨.int .i64, 1, 8, [.int .i64 (.l 0)], [.bool fun _ => false]⟩
  | 235 => some ⟨.string, 1, 16, [.str fun _ => []], [.bool fun _ => false]⟩
  | 236 => some ⟨.slice 5, 1, 24, [.nil], [.bytes fun _ => []]⟩
  | 237 => some ⟨.slice 27, 1, 24, [.nil], [.sl 7 (fun _ => 0) fun _ _ => .bool fun _ => false]⟩
  | 240 => some ⟨.other, 1, 8, [.val .nilFunc], [.bool fun _ => false]⟩
  | _ => none

def rwN (f : Nat) : Bool :=
  match f with
  | 27 => true
  | 28 => true
  | 30 => true
  | 85 => true
  | 88 => true
  | 160 => true
  | 151 => true
  | 153 => true
  | 86 => true
  | 165 => true
  | 132 => true
  | 166 => true
  | 167 => true
  | 168 => true
  | 169 => true
  | 36 => true
  | 37 => true
  | 40 => true
  | 91 => true
  | 92 => true
  | 93 => true
  | 171 => true
  | 134 => true
  | _ => false

/-- A raw operation's contract. -/
structure ConG (f : Nat) (svs : List SV) (objs : Objs) (X : Type) (r : X → SV) (objs' : X → Objs) : Prop where
  spec : SpecG Tryz.prog f svs objs X r objs'

def E : Env := ⟨tiN, rwN, ConG, fun _ => false, fun _ => false⟩
theorem rawOk : ∀ f svs objs X r objs', E.raw f svs objs X r objs' → SpecG Tryz.prog f svs objs X r objs' := fun _ _ _ _ _ _ h => ConG.spec h

theorem info2 : (Tryz.prog.info? 2).map (fun i => (i.size, i.bytes, i.zero)) = some (1, 8, some (.int .i64 0)) := by kernel_rfl
theorem info3 : (Tryz.prog.info? 3).map (fun i => (i.size, i.bytes, i.zero)) = some (1, 8, some (.int .i64 0)) := by kernel_rfl
theorem info4 : (Tryz.prog.info? 4).map (fun i => (i.size, i.bytes, i.zero)) = some (1, 1, some (.bool false)) := by kernel_rfl
theorem info5 : (Tryz.prog.info? 5).map (fun i => (i.size, i.bytes, i.zero)) = some (1, 1, some (.int .u8 0)) := by kernel_rfl
theorem info9 : (Tryz.prog.info? 9).map (fun i => (i.size, i.bytes, i.zero)) = some (1, 16, some (.string ⟨#[]⟩)) := by kernel_rfl
theorem info12 : (Tryz.prog.info? 12).map (fun i => (i.size, i.bytes, i.zero)) = some (1, 8, some (.int .u64 0)) := by kernel_rfl
theorem info21 : (Tryz.prog.info? 21).map (fun i => (i.size, i.bytes, i.zero)) = some (1, 4, some (.int .i32 0)) := by kernel_rfl
theorem info22 : (Tryz.prog.info? 22).map (fun i => (i.size, i.bytes, i.zero)) = some (1, 1, some (.int .u8 0)) := by kernel_rfl
theorem info23 : (Tryz.prog.info? 23).map (fun i => (i.size, i.bytes, i.zero)) = some (1, 24, some (.slice none 0 0)) := by kernel_rfl
theorem info24 : (Tryz.prog.info? 24).map (fun i => (i.size, i.bytes, i.zero)) = some (1, 24, some (.slice none 0 0)) := by kernel_rfl
theorem info25 : (Tryz.prog.info? 25).map (fun i => (i.size, i.bytes, i.zero)) = some (1, 24, some (.slice none 0 0)) := by kernel_rfl
theorem info27 : (Tryz.prog.info? 27).map (fun i => (i.size, i.bytes, i.zero)) = some (7, 104, some (.agg #[.int .u8 0, .bool false, .int .i64 0, .string ⟨#[]⟩, .slice none 0 0, .slice none 0 0, .slice none 0 0])) := by kernel_rfl
theorem info28 : (Tryz.prog.info? 28).map (fun i => (i.size, i.bytes, i.zero)) = some (16, 232, some (.agg #[.int .u8 0, .string ⟨#[]⟩, .int .u8 0, .bool false, .int .i64 0, .string ⟨#[]⟩, .slice none 0 0, .slice none 0 0, .slice none 0 0, .int .u8 0, .bool false, .int .i64 0, .string ⟨#[]⟩, .slice none 0 0, .slice none 0 0, .slice none 0 0])) := by kernel_rfl
theorem info29 : (Tryz.prog.info? 29).map (fun i => (i.size, i.bytes, i.zero)) = some (16, 232, some (.agg #[.int .u8 0, .string ⟨#[]⟩, .int .u8 0, .bool false, .int .i64 0, .string ⟨#[]⟩, .slice none 0 0, .slice none 0 0, .slice none 0 0, .int .u8 0, .bool false, .int .i64 0, .string ⟨#[]⟩, .slice none 0 0, .slice none 0 0, .slice none 0 0])) := by kernel_rfl
theorem info34 : (Tryz.prog.info? 34).map (fun i => (i.size, i.bytes, i.zero)) = some (1, 2, some (.int .u16 0)) := by kernel_rfl
theorem info77 : (Tryz.prog.info? 77).map (fun i => (i.size, i.bytes, i.zero)) = some (1, 8, some (.pointer none)) := by kernel_rfl
theorem info85 : (Tryz.prog.info? 85).map (fun i => (i.size, i.bytes, i.zero)) = some (0, 0, some (.agg #[])) := by kernel_rfl
theorem info88 : (Tryz.prog.info? 88).map (fun i => (i.size, i.bytes, i.zero)) = some (1, 8, some (.pointer none)) := by kernel_rfl
theorem info95 : (Tryz.prog.info? 95).map (fun i => (i.size, i.bytes, i.zero)) = some (1, 8, some (.nilFunc)) := by kernel_rfl
theorem info97 : (Tryz.prog.info? 97).map (fun i => (i.size, i.bytes, i.zero)) = some (1, 8, some (.nilFunc)) := by kernel_rfl
theorem info98 : (Tryz.prog.info? 98).map (fun i => (i.size, i.bytes, i.zero)) = some (1, 8, some (.nilFunc)) := by kernel_rfl
theorem info103 : (Tryz.prog.info? 103).map (fun i => (i.size, i.bytes, i.zero)) = some (1, 8, some (.int .u64 0)) := by kernel_rfl
theorem info132 : (Tryz.prog.info? 132).map (fun i => (i.size, i.bytes, i.zero)) = some (8, 120, some (.agg #[.string ⟨#[]⟩, .int .u8 0, .bool false, .int .i64 0, .string ⟨#[]⟩, .slice none 0 0, .slice none 0 0, .slice none 0 0])) := by kernel_rfl
theorem info141 : (Tryz.prog.info? 141).map (fun i => (i.size, i.bytes, i.zero)) = some (1, 24, some (.agg #[.slice none 0 0])) := by kernel_rfl
theorem info146 : (Tryz.prog.info? 146).map (fun i => (i.size, i.bytes, i.zero)) = some (4, 48, some (.agg #[.slice none 0 0, .int .i64 0, .int .u16 0, .int .i64 0])) := by kernel_rfl
theorem info157 : (Tryz.prog.info? 157).map (fun i => (i.size, i.bytes, i.zero)) = some (1, 8, some (.nilFunc)) := by kernel_rfl
theorem info161 : (Tryz.prog.info? 161).map (fun i => (i.size, i.bytes, i.zero)) = some (1, 8, some (.int .u64 0)) := by kernel_rfl
theorem info170 : (Tryz.prog.info? 170).map (fun i => (i.size, i.bytes, i.zero)) = some (1, 4, some (.int .u32 0)) := by kernel_rfl
theorem info174 : (Tryz.prog.info? 174).map (fun i => (i.size, i.bytes, i.zero)) = some (1, 24, some (.slice none 0 0)) := by kernel_rfl
theorem info193 : (Tryz.prog.info? 193).map (fun i => (i.size, i.bytes, i.zero)) = some (1, 24, some (.slice none 0 0)) := by kernel_rfl
theorem info195 : (Tryz.prog.info? 195).map (fun i => (i.size, i.bytes, i.zero)) = some (6, 80, some (.agg #[.string ⟨#[]⟩, .int .u32 0, .slice none 0 0, .bool false, .int .u8 0, .slice none 0 0])) := by kernel_rfl
theorem info204 : (Tryz.prog.info? 204).map (fun i => (i.size, i.bytes, i.zero)) = some (4, 64, some (.agg #[.string ⟨#[]⟩, .int .u32 0, .string ⟨#[]⟩, .slice none 0 0])) := by kernel_rfl
theorem info207 : (Tryz.prog.info? 207).map (fun i => (i.size, i.bytes, i.zero)) = some (1, 8, some (.nilFunc)) := by kernel_rfl
theorem info208 : (Tryz.prog.info? 208).map (fun i => (i.size, i.bytes, i.zero)) = some (1, 24, some (.slice none 0 0)) := by kernel_rfl
theorem info214 : (Tryz.prog.info? 214).map (fun i => (i.size, i.bytes, i.zero)) = some (1, 8, some (.nilFunc)) := by kernel_rfl
theorem info217 : (Tryz.prog.info? 217).map (fun i => (i.size, i.bytes, i.zero)) = some (1, 8, some (.nilFunc)) := by kernel_rfl
theorem info222 : (Tryz.prog.info? 222).map (fun i => (i.size, i.bytes, i.zero)) = some (1, 8, some (.pointer none)) := by kernel_rfl
theorem info224 : (Tryz.prog.info? 224).map (fun i => (i.size, i.bytes, i.zero)) = some (2, 16, some (.agg #[.pointer none, .bool false])) := by kernel_rfl
theorem info226 : (Tryz.prog.info? 226).map (fun i => (i.size, i.bytes, i.zero)) = some (1, 8, some (.nilFunc)) := by kernel_rfl
theorem info232 : (Tryz.prog.info? 232).map (fun i => (i.size, i.bytes, i.zero)) = some (0, 0, some (.agg #[])) := by kernel_rfl
theorem info233 : (Tryz.prog.info? 233).map (fun i => (i.size, i.bytes, i.zero)) = some (1, 1, some (.bool false)) := by kernel_rfl
theorem info234 : (Tryz.prog.info? 234).map (fun i => (i.size, i.bytes, i.zero)) = some (1, 8, some (.int .i64 0)) := by kernel_rfl
theorem info235 : (Tryz.prog.info? 235).map (fun i => (i.size, i.bytes, i.zero)) = some (1, 16, some (.string ⟨#[]⟩)) := by kernel_rfl
theorem info236 : (Tryz.prog.info? 236).map (fun i => (i.size, i.bytes, i.zero)) = some (1, 24, some (.slice none 0 0)) := by kernel_rfl
theorem info237 : (Tryz.prog.info? 237).map (fun i => (i.size, i.bytes, i.zero)) = some (1, 24, some (.slice none 0 0)) := by kernel_rfl
theorem info240 : (Tryz.prog.info? 240).map (fun i => (i.size, i.bytes, i.zero)) = some (1, 8, some (.nilFunc)) := by kernel_rfl

theorem ok2 {ti : TI} (h : tiN 2 = some ti) : TIOk Tryz.prog E 2 ti := by cases h; exact tiOk_of info2 (fun η G w => by simp [SVRels, SVRel, Value.cells, IE.den, BE.den]) Tryz.underlying2 rfl rfl
theorem ok3 {ti : TI} (h : tiN 3 = some ti) : TIOk Tryz.prog E 3 ti := by cases h; exact tiOk_of info3 (fun η G w => by simp [SVRels, SVRel, Value.cells, IE.den, BE.den]) Tryz.underlying3 rfl rfl
theorem ok4 {ti : TI} (h : tiN 4 = some ti) : TIOk Tryz.prog E 4 ti := by cases h; exact tiOk_of info4 (fun η G w => by simp [SVRels, SVRel, Value.cells, IE.den, BE.den]) Tryz.underlying4 rfl rfl
theorem ok5 {ti : TI} (h : tiN 5 = some ti) : TIOk Tryz.prog E 5 ti := by cases h; exact tiOk_of info5 (fun η G w => by simp [SVRels, SVRel, Value.cells, IE.den, BE.den]) Tryz.underlying5 rfl rfl
theorem ok9 {ti : TI} (h : tiN 9 = some ti) : TIOk Tryz.prog E 9 ti := by cases h; exact tiOk_of info9 (fun η G w => by simp [SVRels, SVRel, Value.cells, IE.den, BE.den]) Tryz.underlying9 rfl rfl
theorem ok12 {ti : TI} (h : tiN 12 = some ti) : TIOk Tryz.prog E 12 ti := by cases h; exact tiOk_of info12 (fun η G w => by simp [SVRels, SVRel, Value.cells, IE.den, BE.den]) Tryz.underlying12 rfl rfl
theorem ok21 {ti : TI} (h : tiN 21 = some ti) : TIOk Tryz.prog E 21 ti := by cases h; exact tiOk_of info21 (fun η G w => by simp [SVRels, SVRel, Value.cells, IE.den, BE.den]) Tryz.underlying21 rfl rfl
theorem ok22 {ti : TI} (h : tiN 22 = some ti) : TIOk Tryz.prog E 22 ti := by cases h; exact tiOk_of info22 (fun η G w => by simp [SVRels, SVRel, Value.cells, IE.den, BE.den]) Tryz.underlying22 rfl rfl
theorem ok23 {ti : TI} (h : tiN 23 = some ti) : TIOk Tryz.prog E 23 ti := by cases h; exact tiOk_of info23 (fun η G w => by simp [SVRels, SVRel, Value.cells, IE.den, BE.den]) Tryz.underlying23 rfl rfl
theorem ok24 {ti : TI} (h : tiN 24 = some ti) : TIOk Tryz.prog E 24 ti := by cases h; exact tiOk_of info24 (fun η G w => by simp [SVRels, SVRel, Value.cells, IE.den, BE.den]) Tryz.underlying24 rfl rfl
theorem ok25 {ti : TI} (h : tiN 25 = some ti) : TIOk Tryz.prog E 25 ti := by cases h; exact tiOk_of info25 (fun η G w => by simp [SVRels, SVRel, Value.cells, IE.den, BE.den]) Tryz.underlying25 rfl rfl
theorem ok27 {ti : TI} (h : tiN 27 = some ti) : TIOk Tryz.prog E 27 ti := by cases h; exact tiOk_of info27 (fun η G w => by simp [SVRels, SVRel, Value.cells, IE.den, BE.den]) Tryz.underlying27 ⟨_, rfl, ⟨rfl, rfl, info_size info22 rfl (by decide), ⟨rfl, rfl, info_size info4 rfl (by decide), ⟨rfl, rfl, info_size info2 rfl (by decide), ⟨rfl, rfl, info_size info9 rfl (by decide), ⟨rfl, rfl, info_size info23 rfl (by decide), ⟨rfl, rfl, info_size info24 rfl (by decide), ⟨rfl, rfl, info_size info25 rfl (by decide), trivial⟩⟩⟩⟩⟩⟩⟩⟩ rfl
theorem ok28 {ti : TI} (h : tiN 28 = some ti) : TIOk Tryz.prog E 28 ti := by cases h; exact tiOk_of info28 (fun η G w => by simp [SVRels, SVRel, Value.cells, IE.den, BE.den]) Tryz.underlying28 ⟨_, rfl, ⟨rfl, rfl, info_size info5 rfl (by decide), ⟨rfl, rfl, info_size info9 rfl (by decide), ⟨rfl, rfl, info_size info27 rfl (by decide), ⟨rfl, rfl, info_size info27 rfl (by decide), trivial⟩⟩⟩⟩⟩ rfl
theorem ok29 {ti : TI} (h : tiN 29 = some ti) : TIOk Tryz.prog E 29 ti := by cases h; exact tiOk_of info29 (fun η G w => by simp [SVRels, SVRel, Value.cells, IE.den, BE.den]) Tryz.underlying29 ⟨_, rfl, ⟨rfl, rfl, info_size info5 rfl (by decide), ⟨rfl, rfl, info_size info9 rfl (by decide), ⟨rfl, rfl, info_size info27 rfl (by decide), ⟨rfl, rfl, info_size info27 rfl (by decide), trivial⟩⟩⟩⟩⟩ rfl
theorem ok34 {ti : TI} (h : tiN 34 = some ti) : TIOk Tryz.prog E 34 ti := by cases h; exact tiOk_of info34 (fun η G w => by simp [SVRels, SVRel, Value.cells, IE.den, BE.den]) Tryz.underlying34 rfl rfl
theorem ok77 {ti : TI} (h : tiN 77 = some ti) : TIOk Tryz.prog E 77 ti := by cases h; exact tiOk_of info77 (fun η G w => by simp [SVRels, SVRel, Value.cells, IE.den, BE.den]) Tryz.underlying77 ⟨(fun _ h => by cases h), (fun _ _ h => by cases h)⟩ rfl
theorem ok85 {ti : TI} (h : tiN 85 = some ti) : TIOk Tryz.prog E 85 ti := by cases h; exact tiOk_of info85 (fun η G w => by simp [SVRels, SVRel, Value.cells, IE.den, BE.den]) Tryz.underlying85 ⟨_, rfl, trivial⟩ rfl
theorem ok88 {ti : TI} (h : tiN 88 = some ti) : TIOk Tryz.prog E 88 ti := by cases h; exact tiOk_of info88 (fun η G w => by simp [SVRels, SVRel, Value.cells, IE.den, BE.den]) Tryz.underlying88 ⟨(fun _ h => by cases h), (fun _ _ h => by cases h)⟩ rfl
theorem ok95 {ti : TI} (h : tiN 95 = some ti) : TIOk Tryz.prog E 95 ti := by cases h; exact tiOk_of info95 (fun η G w => by simp [SVRels, SVRel, Value.cells, IE.den, BE.den]) Tryz.underlying95 ⟨(fun _ h => by cases h), (fun _ _ h => by cases h)⟩ rfl
theorem ok97 {ti : TI} (h : tiN 97 = some ti) : TIOk Tryz.prog E 97 ti := by cases h; exact tiOk_of info97 (fun η G w => by simp [SVRels, SVRel, Value.cells, IE.den, BE.den]) Tryz.underlying97 ⟨(fun _ h => by cases h), (fun _ _ h => by cases h)⟩ rfl
theorem ok98 {ti : TI} (h : tiN 98 = some ti) : TIOk Tryz.prog E 98 ti := by cases h; exact tiOk_of info98 (fun η G w => by simp [SVRels, SVRel, Value.cells, IE.den, BE.den]) Tryz.underlying98 ⟨(fun _ h => by cases h), (fun _ _ h => by cases h)⟩ rfl
theorem ok103 {ti : TI} (h : tiN 103 = some ti) : TIOk Tryz.prog E 103 ti := by cases h; exact tiOk_of info103 (fun η G w => by simp [SVRels, SVRel, Value.cells, IE.den, BE.den]) Tryz.underlying103 rfl rfl
theorem ok132 {ti : TI} (h : tiN 132 = some ti) : TIOk Tryz.prog E 132 ti := by cases h; exact tiOk_of info132 (fun η G w => by simp [SVRels, SVRel, Value.cells, IE.den, BE.den]) Tryz.underlying132 ⟨_, rfl, ⟨rfl, rfl, info_size info9 rfl (by decide), ⟨rfl, rfl, info_size info27 rfl (by decide), trivial⟩⟩⟩ rfl
theorem ok141 {ti : TI} (h : tiN 141 = some ti) : TIOk Tryz.prog E 141 ti := by cases h; exact tiOk_of info141 (fun η G w => by simp [SVRels, SVRel, Value.cells, IE.den, BE.den]) Tryz.underlying141 ⟨_, rfl, ⟨rfl, rfl, info_size info23 rfl (by decide), trivial⟩⟩ rfl
theorem ok146 {ti : TI} (h : tiN 146 = some ti) : TIOk Tryz.prog E 146 ti := by cases h; exact tiOk_of info146 (fun η G w => by simp [SVRels, SVRel, Value.cells, IE.den, BE.den]) Tryz.underlying146 ⟨_, rfl, ⟨rfl, rfl, info_size info23 rfl (by decide), ⟨rfl, rfl, info_size info3 rfl (by decide), ⟨rfl, rfl, info_size info34 rfl (by decide), ⟨rfl, rfl, info_size info3 rfl (by decide), trivial⟩⟩⟩⟩⟩ rfl
theorem ok157 {ti : TI} (h : tiN 157 = some ti) : TIOk Tryz.prog E 157 ti := by cases h; exact tiOk_of info157 (fun η G w => by simp [SVRels, SVRel, Value.cells, IE.den, BE.den]) Tryz.underlying157 ⟨(fun _ h => by cases h), (fun _ _ h => by cases h)⟩ rfl
theorem ok161 {ti : TI} (h : tiN 161 = some ti) : TIOk Tryz.prog E 161 ti := by cases h; exact tiOk_of info161 (fun η G w => by simp [SVRels, SVRel, Value.cells, IE.den, BE.den]) Tryz.underlying161 rfl rfl
theorem ok170 {ti : TI} (h : tiN 170 = some ti) : TIOk Tryz.prog E 170 ti := by cases h; exact tiOk_of info170 (fun η G w => by simp [SVRels, SVRel, Value.cells, IE.den, BE.den]) Tryz.underlying170 rfl rfl
theorem ok174 {ti : TI} (h : tiN 174 = some ti) : TIOk Tryz.prog E 174 ti := by cases h; exact tiOk_of info174 (fun η G w => by simp [SVRels, SVRel, Value.cells, IE.den, BE.den]) Tryz.underlying174 rfl rfl
theorem ok193 {ti : TI} (h : tiN 193 = some ti) : TIOk Tryz.prog E 193 ti := by cases h; exact tiOk_of info193 (fun η G w => by simp [SVRels, SVRel, Value.cells, IE.den, BE.den]) Tryz.underlying193 rfl rfl
theorem ok195 {ti : TI} (h : tiN 195 = some ti) : TIOk Tryz.prog E 195 ti := by cases h; exact tiOk_of info195 (fun η G w => by simp [SVRels, SVRel, Value.cells, IE.den, BE.den]) Tryz.underlying195 ⟨_, rfl, ⟨rfl, rfl, info_size info9 rfl (by decide), ⟨rfl, rfl, info_size info170 rfl (by decide), ⟨rfl, rfl, info_size info174 rfl (by decide), ⟨rfl, rfl, info_size info4 rfl (by decide), ⟨rfl, rfl, info_size info5 rfl (by decide), ⟨rfl, rfl, info_size info23 rfl (by decide), trivial⟩⟩⟩⟩⟩⟩⟩ rfl
theorem ok204 {ti : TI} (h : tiN 204 = some ti) : TIOk Tryz.prog E 204 ti := by cases h; exact tiOk_of info204 (fun η G w => by simp [SVRels, SVRel, Value.cells, IE.den, BE.den]) Tryz.underlying204 ⟨_, rfl, ⟨rfl, rfl, info_size info9 rfl (by decide), ⟨rfl, rfl, info_size info170 rfl (by decide), ⟨rfl, rfl, info_size info9 rfl (by decide), ⟨rfl, rfl, info_size info193 rfl (by decide), trivial⟩⟩⟩⟩⟩ rfl
theorem ok207 {ti : TI} (h : tiN 207 = some ti) : TIOk Tryz.prog E 207 ti := by cases h; exact tiOk_of info207 (fun η G w => by simp [SVRels, SVRel, Value.cells, IE.den, BE.den]) Tryz.underlying207 ⟨(fun _ h => by cases h), (fun _ _ h => by cases h)⟩ rfl
theorem ok208 {ti : TI} (h : tiN 208 = some ti) : TIOk Tryz.prog E 208 ti := by cases h; exact tiOk_of info208 (fun η G w => by simp [SVRels, SVRel, Value.cells, IE.den, BE.den]) Tryz.underlying208 rfl rfl
theorem ok214 {ti : TI} (h : tiN 214 = some ti) : TIOk Tryz.prog E 214 ti := by cases h; exact tiOk_of info214 (fun η G w => by simp [SVRels, SVRel, Value.cells, IE.den, BE.den]) Tryz.underlying214 ⟨(fun _ h => by cases h), (fun _ _ h => by cases h)⟩ rfl
theorem ok217 {ti : TI} (h : tiN 217 = some ti) : TIOk Tryz.prog E 217 ti := by cases h; exact tiOk_of info217 (fun η G w => by simp [SVRels, SVRel, Value.cells, IE.den, BE.den]) Tryz.underlying217 ⟨(fun _ h => by cases h), (fun _ _ h => by cases h)⟩ rfl
theorem ok222 {ti : TI} (h : tiN 222 = some ti) : TIOk Tryz.prog E 222 ti := by cases h; exact tiOk_of info222 (fun η G w => by simp [SVRels, SVRel, Value.cells, IE.den, BE.den]) Tryz.underlying222 ⟨(fun _ h => by cases h), (fun _ _ h => by cases h)⟩ rfl
theorem ok224 {ti : TI} (h : tiN 224 = some ti) : TIOk Tryz.prog E 224 ti := by cases h; exact tiOk_of info224 (fun η G w => by simp [SVRels, SVRel, Value.cells, IE.den, BE.den]) Tryz.underlying224 ⟨_, rfl, ⟨rfl, rfl, info_size info88 rfl (by decide), ⟨rfl, rfl, info_size info4 rfl (by decide), trivial⟩⟩⟩ rfl
theorem ok226 {ti : TI} (h : tiN 226 = some ti) : TIOk Tryz.prog E 226 ti := by cases h; exact tiOk_of info226 (fun η G w => by simp [SVRels, SVRel, Value.cells, IE.den, BE.den]) Tryz.underlying226 ⟨(fun _ h => by cases h), (fun _ _ h => by cases h)⟩ rfl
theorem ok232 {ti : TI} (h : tiN 232 = some ti) : TIOk Tryz.prog E 232 ti := by cases h; exact tiOk_of info232 (fun η G w => by simp [SVRels, SVRel, Value.cells, IE.den, BE.den]) Tryz.underlying232 ⟨_, rfl, trivial⟩ rfl
theorem ok233 {ti : TI} (h : tiN 233 = some ti) : TIOk Tryz.prog E 233 ti := by cases h; exact tiOk_of info233 (fun η G w => by simp [SVRels, SVRel, Value.cells, IE.den, BE.den]) Tryz.underlying233 rfl rfl
theorem ok234 {ti : TI} (h : tiN 234 = some ti) : TIOk Tryz.prog E 234 ti := by cases h; exact tiOk_of info234 (fun η G w => by simp [SVRels, SVRel, Value.cells, IE.den, BE.den]) Tryz.underlying234 rfl rfl
theorem ok235 {ti : TI} (h : tiN 235 = some ti) : TIOk Tryz.prog E 235 ti := by cases h; exact tiOk_of info235 (fun η G w => by simp [SVRels, SVRel, Value.cells, IE.den, BE.den]) Tryz.underlying235 rfl rfl
theorem ok236 {ti : TI} (h : tiN 236 = some ti) : TIOk Tryz.prog E 236 ti := by cases h; exact tiOk_of info236 (fun η G w => by simp [SVRels, SVRel, Value.cells, IE.den, BE.den]) Tryz.underlying236 rfl rfl
theorem ok237 {ti : TI} (h : tiN 237 = some ti) : TIOk Tryz.prog E 237 ti := by cases h; exact tiOk_of info237 (fun η G w => by simp [SVRels, SVRel, Value.cells, IE.den, BE.den]) Tryz.underlying237 rfl rfl
theorem ok240 {ti : TI} (h : tiN 240 = some ti) : TIOk Tryz.prog E 240 ti := by cases h; exact tiOk_of info240 (fun η G w => by simp [SVRels, SVRel, Value.cells, IE.den, BE.den]) Tryz.underlying240 ⟨(fun _ h => by cases h), (fun _ _ h => by cases h)⟩ rfl

theorem eok : EOk Tryz.prog E := by
  intro T ti h
  change tiN T = some ti at h
  unfold tiN at h
  split at h
  · exact ok2 h
  · exact ok3 h
  · exact ok4 h
  · exact ok5 h
  · exact ok9 h
  · exact ok12 h
  · exact ok21 h
  · exact ok22 h
  · exact ok23 h
  · exact ok24 h
  · exact ok25 h
  · exact ok27 h
  · exact ok28 h
  · exact ok29 h
  · exact ok34 h
  · exact ok77 h
  · exact ok85 h
  · exact ok88 h
  · exact ok95 h
  · exact ok97 h
  · exact ok98 h
  · exact ok103 h
  · exact ok132 h
  · exact ok141 h
  · exact ok146 h
  · exact ok157 h
  · exact ok161 h
  · exact ok170 h
  · exact ok174 h
  · exact ok193 h
  · exact ok195 h
  · exact ok204 h
  · exact ok207 h
  · exact ok208 h
  · exact ok214 h
  · exact ok217 h
  · exact ok222 h
  · exact ok224 h
  · exact ok226 h
  · exact ok232 h
  · exact ok233 h
  · exact ok234 h
  · exact ok235 h
  · exact ok236 h
  · exact ok237 h
  · exact ok240 h
  · cases h
end Go.Proofs.YtkogbobplhebaaaGreatDoor

