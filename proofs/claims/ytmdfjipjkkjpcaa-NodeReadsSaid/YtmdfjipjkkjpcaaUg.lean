/- Texts put together: Ne, Nb, Nc, Nx, Nm, No. -/
import Derived.Test.YtmdfjipjkkjpcaaProg
import Derived.KernelRfl
import Derived.Test.YtmdfjipjkkjpcaaChecked
import Derived.Eval
import Derived.Laws.Externs
import Derived.Lib.Bytealg
import Derived.Test.YtmdfjipjkkjpcaaUf
namespace Go.Proofs.Ytmdfjipjkkjpcaa
open Go.SX

def tiN (T : Nat) : Option TI :=
  match T with
  | 3 => some ⟨.int .i64, 1, 8, [.int .i64 (.l 0)], [.bool fun _ => false]⟩
  | 4 => some ⟨.bool, 1, 1, [.bool .f], [.bool fun _ => false]⟩
  | 5 => some ⟨.int .u8, 1, 1, [.int .u8 (.l 0)], [.bool fun _ => false]⟩
  | 9 => some ⟨.string, 1, 16, [.str fun _ => []], [.bool fun _ => false]⟩
  | 22 => some ⟨.slice 74, 1, 24, [.nil], [.sl 4 (fun _ => 0) fun _ _ => .bool fun _ => false]⟩
  | 24 => some ⟨.struct [(4, 0), (22, 1)], 2, 32, [.bool .f, .nil], [.bool fun _ => false, .sl 4 (fun _ => 0) fun _ _ => .bool fun _ => false]⟩
  | 27 => some ⟨.slice 5, 1, 24, [.nil], [.bytes fun _ => []]⟩
  | 29 => some ⟨.int .u16, 1, 2, [.int .u16 (.l 0)], [.bool fun _ => false]⟩
  | 36 => some ⟨.other, 1, 8, [.val (.pointer none)], [.bool fun _ => false]⟩
  | 37 => some ⟨.slice 27, 1, 24, [.nil], [.sl 1 (fun _ => 0) fun _ _ => .bool fun _ => false]⟩
  | 38 => some ⟨.slice 126, 1, 24, [.nil], [.sl 1 (fun _ => 0) fun _ _ => .bool fun _ => false]⟩
  | 39 => some ⟨.slice 128, 1, 24, [.nil], [.sl 1 (fun _ => 0) fun _ _ => .bool fun _ => false]⟩
  | 40 => some ⟨.slice 129, 1, 24, [.nil], [.sl 1 (fun _ => 0) fun _ _ => .bool fun _ => false]⟩
  | 41 => some ⟨.slice 130, 1, 24, [.nil], [.sl 1 (fun _ => 0) fun _ _ => .bool fun _ => false]⟩
  | 42 => some ⟨.slice 131, 1, 24, [.nil], [.sl 1 (fun _ => 0) fun _ _ => .bool fun _ => false]⟩
  | 43 => some ⟨.slice 132, 1, 24, [.nil], [.sl 1 (fun _ => 0) fun _ _ => .bool fun _ => false]⟩
  | 44 => some ⟨.slice 135, 1, 24, [.nil], [.sl 1 (fun _ => 0) fun _ _ => .bool fun _ => false]⟩
  | 45 => some ⟨.slice 138, 1, 24, [.nil], [.sl 1 (fun _ => 0) fun _ _ => .bool fun _ => false]⟩
  | 46 => some ⟨.slice 37, 1, 24, [.nil], [.sl 1 (fun _ => 0) fun _ _ => .bool fun _ => false]⟩
  | 47 => some ⟨.slice 38, 1, 24, [.nil], [.sl 1 (fun _ => 0) fun _ _ => .bool fun _ => false]⟩
  | 48 => some ⟨.slice 39, 1, 24, [.nil], [.sl 1 (fun _ => 0) fun _ _ => .bool fun _ => false]⟩
  | 49 => some ⟨.slice 43, 1, 24, [.nil], [.sl 1 (fun _ => 0) fun _ _ => .bool fun _ => false]⟩
  | 50 => some ⟨.slice 141, 1, 24, [.nil], [.sl 1 (fun _ => 0) fun _ _ => .bool fun _ => false]⟩
  | 51 => some ⟨.slice 144, 1, 24, [.nil], [.sl 1 (fun _ => 0) fun _ _ => .bool fun _ => false]⟩
  | 52 => some ⟨.slice 147, 1, 24, [.nil], [.sl 1 (fun _ => 0) fun _ _ => .bool fun _ => false]⟩
  | 53 => some ⟨.slice 22, 1, 24, [.nil], [.sl 1 (fun _ => 0) fun _ _ => .bool fun _ => false]⟩
  | 54 => some ⟨.slice 150, 1, 24, [.nil], [.sl 1 (fun _ => 0) fun _ _ => .bool fun _ => false]⟩
  | 55 => some ⟨.slice 151, 1, 24, [.nil], [.sl 1 (fun _ => 0) fun _ _ => .bool fun _ => false]⟩
  | 56 => some ⟨.slice 153, 1, 24, [.nil], [.sl 1 (fun _ => 0) fun _ _ => .bool fun _ => false]⟩
  | 57 => some ⟨.slice 158, 1, 24, [.nil], [.sl 1 (fun _ => 0) fun _ _ => .bool fun _ => false]⟩
  | 58 => some ⟨.slice 161, 1, 24, [.nil], [.sl 1 (fun _ => 0) fun _ _ => .bool fun _ => false]⟩
  | 59 => some ⟨.slice 164, 1, 24, [.nil], [.sl 1 (fun _ => 0) fun _ _ => .bool fun _ => false]⟩
  | 61 => some ⟨.struct [(37, 0), (38, 1), (39, 2), (40, 3), (41, 4), (42, 5), (43, 6), (44, 7), (45, 8), (46, 9), (47, 10), (48, 11), (49, 12), (50, 13), (51, 14), (52, 15), (53, 16), (54, 17), (55, 18), (56, 19), (57, 20), (58, 21), (59, 22)], 23, 552, [.nil, .nil, .nil, .nil, .nil, .nil, .nil, .nil, .nil, .nil, .nil, .nil, .nil, .nil, .nil, .nil, .nil, .nil, .nil, .nil, .nil, .nil, .nil], [.sl 1 (fun _ => 0) fun _ _ => .bool fun _ => false, .sl 1 (fun _ => 0) fun _ _ => .bool fun _ => false, .sl 1 (fun _ => 0) fun _ _ => .bool fun _ => false, .sl 1 (fun _ => 0) fun _ _ => .bool fun _ => false, .sl 1 (fun _ => 0) fun _ _ => .bool fun _ => false, .sl 1 (fun _ => 0) fun _ _ => .bool fun _ => false, .sl 1 (fun _ => 0) fun _ _ => .bool fun _ => false, .sl 1 (fun _ => 0) fun _ _ => .bool fun _ => false, .sl 1 (fun _ => 0) fun _ _ => .bool fun _ => false, .sl 1 (fun _ => 0) fun _ _ => .bool fun _ => false, .sl 1 (fun _ => 0) fun _ _ => .bool fun _ => false, .sl 1 (fun _ => 0) fun _ _ => .bool fun _ => false, .sl 1 (fun _ => 0) fun _ _ => .bool fun _ => false, .sl 1 (fun _ => 0) fun _ _ => .bool fun _ => false, .sl 1 (fun _ => 0) fun _ _ => .bool fun _ => false, .sl 1 (fun _ => 0) fun _ _ => .bool fun _ => false, .sl 1 (fun _ => 0) fun _ _ => .bool fun _ => false, .sl 1 (fun _ => 0) fun _ _ => .bool fun _ => false, .sl 1 (fun _ => 0) fun _ _ => .bool fun _ => false, .sl 1 (fun _ => 0) fun _ _ => .bool fun _ => false, .sl 1 (fun _ => 0) fun _ _ => .bool fun _ => false, .sl 1 (fun _ => 0) fun _ _ => .bool fun _ => false, .sl 1 (fun _ => 0) fun _ _ => .bool fun _ => false]⟩
  | 72 => some ⟨.int .u32, 1, 4, [.int .u32 (.l 0)], [.bool fun _ => false]⟩
  | 74 => some ⟨.struct [(27, 0), (27, 1), (72, 2), (72, 3)], 4, 56, [.nil, .nil, .int .u32 (.l 0), .int .u32 (.l 0)], [.bytes fun _ => [], .bytes fun _ => [], .bool fun _ => false, .bool fun _ => false]⟩
  | 88 => some ⟨.int .u64, 1, 8, [.int .u64 (.l 0)], [.bool fun _ => false]⟩
  | 114 => some ⟨.other, 1, 8, [.val (.pointer none)], [.bool fun _ => false]⟩
  | 116 => some ⟨.struct [(27, 0), (3, 1), (4, 2)], 3, 40, [.nil, .int .i64 (.l 0), .bool .f], [.bytes fun _ => [], .bool fun _ => false, .bool fun _ => false]⟩
  | 121 => some ⟨.other, 1, 8, [.val .nilFunc], [.bool fun _ => false]⟩
  | 123 => some ⟨.int .u64, 1, 8, [.int .u64 (.l 0)], [.bool fun _ => false]⟩
  | 125 => some ⟨.mapI .u32, 1, 8, [.val (.map none)], [.bool fun _ => false]⟩
  | 126 => some ⟨.slice 9, 1, 24, [.nil], [.sl 1 (fun _ => 0) fun _ _ => .bool fun _ => false]⟩
  | 168 => some ⟨.struct [], 0, 0, [], []⟩
  | 170 => some ⟨.other, 1, 8, [.val (.pointer none)], [.bool fun _ => false]⟩
  | 172 => some ⟨.struct [(27, 0)], 1, 24, [.nil], [.bytes fun _ => []]⟩
  | 175 => some ⟨.other, 1, 8, [.val .nilFunc], [.bool fun _ => false]⟩
  | _ => none

def rwN (f : Nat) : Bool :=
  match f with
  | 16 => true
  | 18 => true
  | 23 => true
  | 27 => true
  | 29 => true
  | 42 => true
  | 45 => true
  | 49 => true
  | 65 => true
  | _ => false

/-- A raw operation's contract. -/
structure ConG (f : Nat) (svs : List SV) (objs : Objs) (X : Type) (r : X → SV) (objs' : X → Objs) : Prop where
  spec : SpecG Try.prog f svs objs X r objs'

def E : Env := ⟨tiN, rwN, ConG, fun _ => false, fun _ => false⟩
theorem rawOk : ∀ f svs objs X r objs', E.raw f svs objs X r objs' → SpecG Try.prog f svs objs X r objs' := fun _ _ _ _ _ _ h => ConG.spec h

theorem info3 : (Try.prog.info? 3).map (fun i => (i.size, i.bytes, i.zero)) = some (1, 8, some (.int .i64 0)) := by kernel_rfl
theorem info4 : (Try.prog.info? 4).map (fun i => (i.size, i.bytes, i.zero)) = some (1, 1, some (.bool false)) := by kernel_rfl
theorem info5 : (Try.prog.info? 5).map (fun i => (i.size, i.bytes, i.zero)) = some (1, 1, some (.int .u8 0)) := by kernel_rfl
theorem info9 : (Try.prog.info? 9).map (fun i => (i.size, i.bytes, i.zero)) = some (1, 16, some (.string ⟨#[]⟩)) := by kernel_rfl
theorem info22 : (Try.prog.info? 22).map (fun i => (i.size, i.bytes, i.zero)) = some (1, 24, some (.slice none 0 0)) := by kernel_rfl
theorem info24 : (Try.prog.info? 24).map (fun i => (i.size, i.bytes, i.zero)) = some (2, 32, some (.agg #[.bool false, .slice none 0 0])) := by kernel_rfl
theorem info27 : (Try.prog.info? 27).map (fun i => (i.size, i.bytes, i.zero)) = some (1, 24, some (.slice none 0 0)) := by kernel_rfl
theorem info29 : (Try.prog.info? 29).map (fun i => (i.size, i.bytes, i.zero)) = some (1, 2, some (.int .u16 0)) := by kernel_rfl
theorem info36 : (Try.prog.info? 36).map (fun i => (i.size, i.bytes, i.zero)) = some (1, 8, some (.pointer none)) := by kernel_rfl
theorem info37 : (Try.prog.info? 37).map (fun i => (i.size, i.bytes, i.zero)) = some (1, 24, some (.slice none 0 0)) := by kernel_rfl
theorem info38 : (Try.prog.info? 38).map (fun i => (i.size, i.bytes, i.zero)) = some (1, 24, some (.slice none 0 0)) := by kernel_rfl
theorem info39 : (Try.prog.info? 39).map (fun i => (i.size, i.bytes, i.zero)) = some (1, 24, some (.slice none 0 0)) := by kernel_rfl
theorem info40 : (Try.prog.info? 40).map (fun i => (i.size, i.bytes, i.zero)) = some (1, 24, some (.slice none 0 0)) := by kernel_rfl
theorem info41 : (Try.prog.info? 41).map (fun i => (i.size, i.bytes, i.zero)) = some (1, 24, some (.slice none 0 0)) := by kernel_rfl
theorem info42 : (Try.prog.info? 42).map (fun i => (i.size, i.bytes, i.zero)) = some (1, 24, some (.slice none 0 0)) := by kernel_rfl
theorem info43 : (Try.prog.info? 43).map (fun i => (i.size, i.bytes, i.zero)) = some (1, 24, some (.slice none 0 0)) := by kernel_rfl
theorem info44 : (Try.prog.info? 44).map (fun i => (i.size, i.bytes, i.zero)) = some (1, 24, some (.slice none 0 0)) := by kernel_rfl
theorem info45 : (Try.prog.info? 45).map (fun i => (i.size, i.bytes, i.zero)) = some (1, 24, some (.slice none 0 0)) := by kernel_rfl
theorem info46 : (Try.prog.info? 46).map (fun i => (i.size, i.bytes, i.zero)) = some (1, 24, some (.slice none 0 0)) := by kernel_rfl
theorem info47 : (Try.prog.info? 47).map (fun i => (i.size, i.bytes, i.zero)) = some (1, 24, some (.slice none 0 0)) := by kernel_rfl
theorem info48 : (Try.prog.info? 48).map (fun i => (i.size, i.bytes, i.zero)) = some (1, 24, some (.slice none 0 0)) := by kernel_rfl
theorem info49 : (Try.prog.info? 49).map (fun i => (i.size, i.bytes, i.zero)) = some (1, 24, some (.slice none 0 0)) := by kernel_rfl
theorem info50 : (Try.prog.info? 50).map (fun i => (i.size, i.bytes, i.zero)) = some (1, 24, some (.slice none 0 0)) := by kernel_rfl
theorem info51 : (Try.prog.info? 51).map (fun i => (i.size, i.bytes, i.zero)) = some (1, 24, some (.slice none 0 0)) := by kernel_rfl
theorem info52 : (Try.prog.info? 52).map (fun i => (i.size, i.bytes, i.zero)) = some (1, 24, some (.slice none 0 0)) := by kernel_rfl
theorem info53 : (Try.prog.info? 53).map (fun i => (i.size, i.bytes, i.zero)) = some (1, 24, some (.slice none 0 0)) := by kernel_rfl
theorem info54 : (Try.prog.info? 54).map (fun i => (i.size, i.bytes, i.zero)) = some (1, 24, some (.slice none 0 0)) := by kernel_rfl
theorem info55 : (Try.prog.info? 55).map (fun i => (i.size, i.bytes, i.zero)) = some (1, 24, some (.slice none 0 0)) := by kernel_rfl
theorem info56 : (Try.prog.info? 56).map (fun i => (i.size, i.bytes, i.zero)) = some (1, 24, some (.slice none 0 0)) := by kernel_rfl
theorem info57 : (Try.prog.info? 57).map (fun i => (i.size, i.bytes, i.zero)) = some (1, 24, some (.slice none 0 0)) := by kernel_rfl
theorem info58 : (Try.prog.info? 58).map (fun i => (i.size, i.bytes, i.zero)) = some (1, 24, some (.slice none 0 0)) := by kernel_rfl
theorem info59 : (Try.prog.info? 59).map (fun i => (i.size, i.bytes, i.zero)) = some (1, 24, some (.slice none 0 0)) := by kernel_rfl
theorem info61 : (Try.prog.info? 61).map (fun i => (i.size, i.bytes, i.zero)) = some (23, 552, some (.agg #[.slice none 0 0, .slice none 0 0, .slice none 0 0, .slice none 0 0, .slice none 0 0, .slice none 0 0, .slice none 0 0, .slice none 0 0, .slice none 0 0, .slice none 0 0, .slice none 0 0, .slice none 0 0, .slice none 0 0, .slice none 0 0, .slice none 0 0, .slice none 0 0, .slice none 0 0, .slice none 0 0, .slice none 0 0, .slice none 0 0, .slice none 0 0, .slice none 0 0, .slice none 0 0])) := by kernel_rfl
theorem info72 : (Try.prog.info? 72).map (fun i => (i.size, i.bytes, i.zero)) = some (1, 4, some (.int .u32 0)) := by kernel_rfl
theorem info74 : (Try.prog.info? 74).map (fun i => (i.size, i.bytes, i.zero)) = some (4, 56, some (.agg #[.slice none 0 0, .slice none 0 0, .int .u32 0, .int .u32 0])) := by kernel_rfl
theorem info88 : (Try.prog.info? 88).map (fun i => (i.size, i.bytes, i.zero)) = some (1, 8, some (.int .u64 0)) := by kernel_rfl
theorem info114 : (Try.prog.info? 114).map (fun i => (i.size, i.bytes, i.zero)) = some (1, 8, some (.pointer none)) := by kernel_rfl
theorem info116 : (Try.prog.info? 116).map (fun i => (i.size, i.bytes, i.zero)) = some (3, 40, some (.agg #[.slice none 0 0, .int .i64 0, .bool false])) := by kernel_rfl
theorem info121 : (Try.prog.info? 121).map (fun i => (i.size, i.bytes, i.zero)) = some (1, 8, some (.nilFunc)) := by kernel_rfl
theorem info123 : (Try.prog.info? 123).map (fun i => (i.size, i.bytes, i.zero)) = some (1, 8, some (.int .u64 0)) := by kernel_rfl
theorem info125 : (Try.prog.info? 125).map (fun i => (i.size, i.bytes, i.zero)) = some (1, 8, some (.map none)) := by kernel_rfl
theorem info126 : (Try.prog.info? 126).map (fun i => (i.size, i.bytes, i.zero)) = some (1, 24, some (.slice none 0 0)) := by kernel_rfl
theorem info168 : (Try.prog.info? 168).map (fun i => (i.size, i.bytes, i.zero)) = some (0, 0, some (.agg #[])) := by kernel_rfl
theorem info170 : (Try.prog.info? 170).map (fun i => (i.size, i.bytes, i.zero)) = some (1, 8, some (.pointer none)) := by kernel_rfl
theorem info172 : (Try.prog.info? 172).map (fun i => (i.size, i.bytes, i.zero)) = some (1, 24, some (.agg #[.slice none 0 0])) := by kernel_rfl
theorem info175 : (Try.prog.info? 175).map (fun i => (i.size, i.bytes, i.zero)) = some (1, 8, some (.nilFunc)) := by kernel_rfl

theorem ok3 {ti : TI} (h : tiN 3 = some ti) : TIOk Try.prog E 3 ti := by cases h; exact tiOk_of info3 (fun η G w => by simp [SVRels, SVRel, Value.cells, IE.den, BE.den]) Try.underlying3 rfl rfl
theorem ok4 {ti : TI} (h : tiN 4 = some ti) : TIOk Try.prog E 4 ti := by cases h; exact tiOk_of info4 (fun η G w => by simp [SVRels, SVRel, Value.cells, IE.den, BE.den]) Try.underlying4 rfl rfl
theorem ok5 {ti : TI} (h : tiN 5 = some ti) : TIOk Try.prog E 5 ti := by cases h; exact tiOk_of info5 (fun η G w => by simp [SVRels, SVRel, Value.cells, IE.den, BE.den]) Try.underlying5 rfl rfl
theorem ok9 {ti : TI} (h : tiN 9 = some ti) : TIOk Try.prog E 9 ti := by cases h; exact tiOk_of info9 (fun η G w => by simp [SVRels, SVRel, Value.cells, IE.den, BE.den]) Try.underlying9 rfl rfl
theorem ok22 {ti : TI} (h : tiN 22 = some ti) : TIOk Try.prog E 22 ti := by cases h; exact tiOk_of info22 (fun η G w => by simp [SVRels, SVRel, Value.cells, IE.den, BE.den]) Try.underlying22 rfl rfl
theorem ok24 {ti : TI} (h : tiN 24 = some ti) : TIOk Try.prog E 24 ti := by cases h; exact tiOk_of info24 (fun η G w => by simp [SVRels, SVRel, Value.cells, IE.den, BE.den]) Try.underlying24 ⟨_, rfl, ⟨rfl, rfl, info_size info4 rfl (by decide), ⟨rfl, rfl, info_size info22 rfl (by decide), trivial⟩⟩⟩ rfl
theorem ok27 {ti : TI} (h : tiN 27 = some ti) : TIOk Try.prog E 27 ti := by cases h; exact tiOk_of info27 (fun η G w => by simp [SVRels, SVRel, Value.cells, IE.den, BE.den]) Try.underlying27 rfl rfl
theorem ok29 {ti : TI} (h : tiN 29 = some ti) : TIOk Try.prog E 29 ti := by cases h; exact tiOk_of info29 (fun η G w => by simp [SVRels, SVRel, Value.cells, IE.den, BE.den]) Try.underlying29 rfl rfl
theorem ok36 {ti : TI} (h : tiN 36 = some ti) : TIOk Try.prog E 36 ti := by cases h; exact tiOk_of info36 (fun η G w => by simp [SVRels, SVRel, Value.cells, IE.den, BE.den]) Try.underlying36 ⟨(fun _ h => by cases h), (fun _ _ h => by cases h)⟩ rfl
theorem ok37 {ti : TI} (h : tiN 37 = some ti) : TIOk Try.prog E 37 ti := by cases h; exact tiOk_of info37 (fun η G w => by simp [SVRels, SVRel, Value.cells, IE.den, BE.den]) Try.underlying37 rfl rfl
theorem ok38 {ti : TI} (h : tiN 38 = some ti) : TIOk Try.prog E 38 ti := by cases h; exact tiOk_of info38 (fun η G w => by simp [SVRels, SVRel, Value.cells, IE.den, BE.den]) Try.underlying38 rfl rfl
theorem ok39 {ti : TI} (h : tiN 39 = some ti) : TIOk Try.prog E 39 ti := by cases h; exact tiOk_of info39 (fun η G w => by simp [SVRels, SVRel, Value.cells, IE.den, BE.den]) Try.underlying39 rfl rfl
theorem ok40 {ti : TI} (h : tiN 40 = some ti) : TIOk Try.prog E 40 ti := by cases h; exact tiOk_of info40 (fun η G w => by simp [SVRels, SVRel, Value.cells, IE.den, BE.den]) Try.underlying40 rfl rfl
theorem ok41 {ti : TI} (h : tiN 41 = some ti) : TIOk Try.prog E 41 ti := by cases h; exact tiOk_of info41 (fun η G w => by simp [SVRels, SVRel, Value.cells, IE.den, BE.den]) Try.underlying41 rfl rfl
theorem ok42 {ti : TI} (h : tiN 42 = some ti) : TIOk Try.prog E 42 ti := by cases h; exact tiOk_of info42 (fun η G w => by simp [SVRels, SVRel, Value.cells, IE.den, BE.den]) Try.underlying42 rfl rfl
theorem ok43 {ti : TI} (h : tiN 43 = some ti) : TIOk Try.prog E 43 ti := by cases h; exact tiOk_of info43 (fun η G w => by simp [SVRels, SVRel, Value.cells, IE.den, BE.den]) Try.underlying43 rfl rfl
theorem ok44 {ti : TI} (h : tiN 44 = some ti) : TIOk Try.prog E 44 ti := by cases h; exact tiOk_of info44 (fun η G w => by simp [SVRels, SVRel, Value.cells, IE.den, BE.den]) Try.underlying44 rfl rfl
theorem ok45 {ti : TI} (h : tiN 45 = some ti) : TIOk Try.prog E 45 ti := by cases h; exact tiOk_of info45 (fun η G w => by simp [SVRels, SVRel, Value.cells, IE.den, BE.den]) Try.underlying45 rfl rfl
theorem ok46 {ti : TI} (h : tiN 46 = some ti) : TIOk Try.prog E 46 ti := by cases h; exact tiOk_of info46 (fun η G w => by simp [SVRels, SVRel, Value.cells, IE.den, BE.den]) Try.underlying46 rfl rfl
theorem ok47 {ti : TI} (h : tiN 47 = some ti) : TIOk Try.prog E 47 ti := by cases h; exact tiOk_of info47 (fun η G w => by simp [SVRels, SVRel, Value.cells, IE.den, BE.den]) Try.underlying47 rfl rfl
theorem ok48 {ti : TI} (h : tiN 48 = some ti) : TIOk Try.prog E 48 ti := by cases h; exact tiOk_of info48 (fun η G w => by simp [SVRels, SVRel, Value.cells, IE.den, BE.den]) Try.underlying48 rfl rfl
theorem ok49 {ti : TI} (h : tiN 49 = some ti) : TIOk Try.prog E 49 ti := by cases h; exact tiOk_of info49 (fun η G w => by simp [SVRels, SVRel, Value.cells, IE.den, BE.den]) Try.underlying49 rfl rfl
theorem ok50 {ti : TI} (h : tiN 50 = some ti) : TIOk Try.prog E 50 ti := by cases h; exact tiOk_of info50 (fun η G w => by simp [SVRels, SVRel, Value.cells, IE.den, BE.den]) Try.underlying50 rfl rfl
theorem ok51 {ti : TI} (h : tiN 51 = some ti) : TIOk Try.prog E 51 ti := by cases h; exact tiOk_of info51 (fun η G w => by simp [SVRels, SVRel, Value.cells, IE.den, BE.den]) Try.underlying51 rfl rfl
theorem ok52 {ti : TI} (h : tiN 52 = some ti) : TIOk Try.prog E 52 ti := by cases h; exact tiOk_of info52 (fun η G w => by simp [SVRels, SVRel, Value.cells, IE.den, BE.den]) Try.underlying52 rfl rfl
theorem ok53 {ti : TI} (h : tiN 53 = some ti) : TIOk Try.prog E 53 ti := by cases h; exact tiOk_of info53 (fun η G w => by simp [SVRels, SVRel, Value.cells, IE.den, BE.den]) Try.underlying53 rfl rfl
theorem ok54 {ti : TI} (h : tiN 54 = some ti) : TIOk Try.prog E 54 ti := by cases h; exact tiOk_of info54 (fun η G w => by simp [SVRels, SVRel, Value.cells, IE.den, BE.den]) Try.underlying54 rfl rfl
theorem ok55 {ti : TI} (h : tiN 55 = some ti) : TIOk Try.prog E 55 ti := by cases h; exact tiOk_of info55 (fun η G w => by simp [SVRels, SVRel, Value.cells, IE.den, BE.den]) Try.underlying55 rfl rfl
theorem ok56 {ti : TI} (h : tiN 56 = some ti) : TIOk Try.prog E 56 ti := by cases h; exact tiOk_of info56 (fun η G w => by simp [SVRels, SVRel, Value.cells, IE.den, BE.den]) Try.underlying56 rfl rfl
theorem ok57 {ti : TI} (h : tiN 57 = some ti) : TIOk Try.prog E 57 ti := by cases h; exact tiOk_of info57 (fun η G w => by simp [SVRels, SVRel, Value.cells, IE.den, BE.den]) Try.underlying57 rfl rfl
theorem ok58 {ti : TI} (h : tiN 58 = some ti) : TIOk Try.prog E 58 ti := by cases h; exact tiOk_of info58 (fun η G w => by simp [SVRels, SVRel, Value.cells, IE.den, BE.den]) Try.underlying58 rfl rfl
theorem ok59 {ti : TI} (h : tiN 59 = some ti) : TIOk Try.prog E 59 ti := by cases h; exact tiOk_of info59 (fun η G w => by simp [SVRels, SVRel, Value.cells, IE.den, BE.den]) Try.underlying59 rfl rfl
theorem ok61 {ti : TI} (h : tiN 61 = some ti) : TIOk Try.prog E 61 ti := by cases h; exact tiOk_of info61 (fun η G w => by simp [SVRels, SVRel, Value.cells, IE.den, BE.den]) Try.underlying61 ⟨_, rfl, ⟨rfl, rfl, info_size info37 rfl (by decide), ⟨rfl, rfl, info_size info38 rfl (by decide), ⟨rfl, rfl, info_size info39 rfl (by decide), ⟨rfl, rfl, info_size info40 rfl (by decide), ⟨rfl, rfl, info_size info41 rfl (by decide), ⟨rfl, rfl, info_size info42 rfl (by decide), ⟨rfl, rfl, info_size info43 rfl (by decide), ⟨rfl, rfl, info_size info44 rfl (by decide), ⟨rfl, rfl, info_size info45 rfl (by decide), ⟨rfl, rfl, info_size info46 rfl (by decide), ⟨rfl, rfl, info_size info47 rfl (by decide), ⟨rfl, rfl, info_size info48 rfl (by decide), ⟨rfl, rfl, info_size info49 rfl (by decide), ⟨rfl, rfl, info_size info50 rfl (by decide), ⟨rfl, rfl, info_size info51 rfl (by decide), ⟨rfl, rfl, info_size info52 rfl (by decide), ⟨rfl, rfl, info_size info53 rfl (by decide), ⟨rfl, rfl, info_size info54 rfl (by decide), ⟨rfl, rfl, info_size info55 rfl (by decide), ⟨rfl, rfl, info_size info56 rfl (by decide), ⟨rfl, rfl, info_size info57 rfl (by decide), ⟨rfl, rfl, info_size info58 rfl (by decide), ⟨rfl, rfl, info_size info59 rfl (by decide), trivial⟩⟩⟩⟩⟩⟩⟩⟩⟩⟩⟩⟩⟩⟩⟩⟩⟩⟩⟩⟩⟩⟩⟩⟩ rfl
theorem ok72 {ti : TI} (h : tiN 72 = some ti) : TIOk Try.prog E 72 ti := by cases h; exact tiOk_of info72 (fun η G w => by simp [SVRels, SVRel, Value.cells, IE.den, BE.den]) Try.underlying72 rfl rfl
theorem ok74 {ti : TI} (h : tiN 74 = some ti) : TIOk Try.prog E 74 ti := by cases h; exact tiOk_of info74 (fun η G w => by simp [SVRels, SVRel, Value.cells, IE.den, BE.den]) Try.underlying74 ⟨_, rfl, ⟨rfl, rfl, info_size info27 rfl (by decide), ⟨rfl, rfl, info_size info27 rfl (by decide), ⟨rfl, rfl, info_size info72 rfl (by decide), ⟨rfl, rfl, info_size info72 rfl (by decide), trivial⟩⟩⟩⟩⟩ rfl
theorem ok88 {ti : TI} (h : tiN 88 = some ti) : TIOk Try.prog E 88 ti := by cases h; exact tiOk_of info88 (fun η G w => by simp [SVRels, SVRel, Value.cells, IE.den, BE.den]) Try.underlying88 rfl rfl
theorem ok114 {ti : TI} (h : tiN 114 = some ti) : TIOk Try.prog E 114 ti := by cases h; exact tiOk_of info114 (fun η G w => by simp [SVRels, SVRel, Value.cells, IE.den, BE.den]) Try.underlying114 ⟨(fun _ h => by cases h), (fun _ _ h => by cases h)⟩ rfl
theorem ok116 {ti : TI} (h : tiN 116 = some ti) : TIOk Try.prog E 116 ti := by cases h; exact tiOk_of info116 (fun η G w => by simp [SVRels, SVRel, Value.cells, IE.den, BE.den]) Try.underlying116 ⟨_, rfl, ⟨rfl, rfl, info_size info27 rfl (by decide), ⟨rfl, rfl, info_size info3 rfl (by decide), ⟨rfl, rfl, info_size info4 rfl (by decide), trivial⟩⟩⟩⟩ rfl
theorem ok121 {ti : TI} (h : tiN 121 = some ti) : TIOk Try.prog E 121 ti := by cases h; exact tiOk_of info121 (fun η G w => by simp [SVRels, SVRel, Value.cells, IE.den, BE.den]) Try.underlying121 ⟨(fun _ h => by cases h), (fun _ _ h => by cases h)⟩ rfl
theorem ok123 {ti : TI} (h : tiN 123 = some ti) : TIOk Try.prog E 123 ti := by cases h; exact tiOk_of info123 (fun η G w => by simp [SVRels, SVRel, Value.cells, IE.den, BE.den]) Try.underlying123 rfl rfl
theorem ok125 {ti : TI} (h : tiN 125 = some ti) : TIOk Try.prog E 125 ti := by cases h; exact tiOk_of info125 (fun η G w => by simp [SVRels, SVRel, Value.cells, IE.den, BE.den]) Try.underlying125 ⟨_, _, rfl, Try.underlying72, info_zero info4⟩ rfl
theorem ok126 {ti : TI} (h : tiN 126 = some ti) : TIOk Try.prog E 126 ti := by cases h; exact tiOk_of info126 (fun η G w => by simp [SVRels, SVRel, Value.cells, IE.den, BE.den]) Try.underlying126 rfl rfl
theorem ok168 {ti : TI} (h : tiN 168 = some ti) : TIOk Try.prog E 168 ti := by cases h; exact tiOk_of info168 (fun η G w => by simp [SVRels, SVRel, Value.cells, IE.den, BE.den]) Try.underlying168 ⟨_, rfl, trivial⟩ rfl
theorem ok170 {ti : TI} (h : tiN 170 = some ti) : TIOk Try.prog E 170 ti := by cases h; exact tiOk_of info170 (fun η G w => by simp [SVRels, SVRel, Value.cells, IE.den, BE.den]) Try.underlying170 ⟨(fun _ h => by cases h), (fun _ _ h => by cases h)⟩ rfl
theorem ok172 {ti : TI} (h : tiN 172 = some ti) : TIOk Try.prog E 172 ti := by cases h; exact tiOk_of info172 (fun η G w => by simp [SVRels, SVRel, Value.cells, IE.den, BE.den]) Try.underlying172 ⟨_, rfl, ⟨rfl, rfl, info_size info27 rfl (by decide), trivial⟩⟩ rfl
theorem ok175 {ti : TI} (h : tiN 175 = some ti) : TIOk Try.prog E 175 ti := by cases h; exact tiOk_of info175 (fun η G w => by simp [SVRels, SVRel, Value.cells, IE.den, BE.den]) Try.underlying175 ⟨(fun _ h => by cases h), (fun _ _ h => by cases h)⟩ rfl

theorem eok : EOk Try.prog E := by
  intro T ti h
  change tiN T = some ti at h
  unfold tiN at h
  split at h
  · exact ok3 h
  · exact ok4 h
  · exact ok5 h
  · exact ok9 h
  · exact ok22 h
  · exact ok24 h
  · exact ok27 h
  · exact ok29 h
  · exact ok36 h
  · exact ok37 h
  · exact ok38 h
  · exact ok39 h
  · exact ok40 h
  · exact ok41 h
  · exact ok42 h
  · exact ok43 h
  · exact ok44 h
  · exact ok45 h
  · exact ok46 h
  · exact ok47 h
  · exact ok48 h
  · exact ok49 h
  · exact ok50 h
  · exact ok51 h
  · exact ok52 h
  · exact ok53 h
  · exact ok54 h
  · exact ok55 h
  · exact ok56 h
  · exact ok57 h
  · exact ok58 h
  · exact ok59 h
  · exact ok61 h
  · exact ok72 h
  · exact ok74 h
  · exact ok88 h
  · exact ok114 h
  · exact ok116 h
  · exact ok121 h
  · exact ok123 h
  · exact ok125 h
  · exact ok126 h
  · exact ok168 h
  · exact ok170 h
  · exact ok172 h
  · exact ok175 h
  · cases h
end Go.Proofs.Ytmdfjipjkkjpcaa

/- Node laws: the contracts' form. -/
namespace Go.Proofs.Ytmdfjipjkkjpcaa
open Go.SX

/-- A contract, shown. -/
structure Con (f : Nat) (svs : List SV) (objs : Objs) (r : SV) (objs' : Objs) : Prop where
  spec : SpecX Try.prog f svs objs r objs'
theorem Con.args {f : Nat} {svs svs' : List SV} {objs : Objs} {r : SV} {objs' : Objs} (h : Con f svs objs r objs') (hs : ∀ (η : OEnv) (G : Nat → Prop) (w : World) (vs : List Value), SVRels η G w svs' vs → SVRels η G w svs vs) : Con f svs' objs r objs' :=
  ⟨fun η G vs w h1 h2 h3 => h.spec η G vs w h1 h2 (hs η G w vs h3)⟩
theorem Con.res {f : Nat} {svs : List SV} {objs : Objs} {r r' : SV} {objs' : Objs} (h : Con f svs objs r objs') (hr : ∀ (η : OEnv) (G : Nat → Prop) (w : World) (v : Value), SVRel η G w r v → SVRel η G w r' v) : Con f svs objs r' objs' :=
  ⟨fun η G vs w h1 h2 h3 => (h.spec η G vs w h1 h2 h3).mono fun _ _ ⟨η', G', hv, h⟩ => ⟨η', G', hr _ _ _ _ hv, h⟩⟩
theorem Con.yes {f : Nat} {svs : List SV} {objs : Objs} {b : Bool} {objs' : Objs} (h : Con f svs objs (.bool (.s fun _ => b)) objs') (hb : b = true) : Con f svs objs (.bool .t) objs' := by
  subst hb; exact h.res fun _ _ _ _ h => by simpa [SVRel, BE.den] using h
theorem Con.yes2 {f : Nat} {svs : List SV} {objs : Objs} {s : SV} {b : Bool} {objs' : Objs} (h : Con f svs objs (.tup [s, .bool (.s fun _ => b)]) objs') (hb : b = true) : Con f svs objs (.tup [s, .bool .t]) objs' := by
  subst hb; exact h.res fun _ _ _ v h => by
    obtain ⟨vs, rfl, h⟩ := h
    match vs, h with
    | [v1, v2], h => exact ⟨_, rfl, h.1, h.2.1, trivial⟩
    | [], h => exact h.elim
    | [_], h => exact h.2.elim
    | _ :: _ :: _ :: _, h => exact h.2.2.elim
theorem Con.no2 {f : Nat} {svs : List SV} {objs : Objs} {s : SV} {b : Bool} {objs' : Objs} (h : Con f svs objs (.tup [s, .bool (.s fun _ => b)]) objs') (hb : b = false) : Con f svs objs (.tup [s, .bool .f]) objs' := by
  subst hb; exact h.res fun _ _ _ v h => by
    obtain ⟨vs, rfl, h⟩ := h
    match vs, h with
    | [v1, v2], h => exact ⟨_, rfl, h.1, h.2.1, trivial⟩
    | [], h => exact h.elim
    | [_], h => exact h.2.elim
    | _ :: _ :: _ :: _, h => exact h.2.2.elim

def Eqv (s s' : SV) : Prop := ∀ (η : OEnv) (G : Nat → Prop) (w : World) (v : Value), SVRel η G w s v → SVRel η G w s' v
def EqvL (s s' : List SV) : Prop := ∀ (η : OEnv) (G : Nat → Prop) (w : World) (vs : List Value), SVRels η G w s vs → SVRels η G w s' vs
theorem Eqv.refl (s : SV) : Eqv s s := fun _ _ _ _ h => h
theorem eqv_t1 : Eqv (.bool .t) (.bool (.s fun _ => true)) := fun _ _ _ _ h => h
theorem eqv_t2 : Eqv (.bool (.s fun _ => true)) (.bool .t) := fun _ _ _ _ h => h
theorem eqv_f1 : Eqv (.bool .f) (.bool (.s fun _ => false)) := fun _ _ _ _ h => h
theorem eqv_f2 : Eqv (.bool (.s fun _ => false)) (.bool .f) := fun _ _ _ _ h => h
theorem EqvL.nil : EqvL [] [] := fun _ _ _ _ h => h
theorem EqvL.cons {s s' : SV} {l l' : List SV} (h : Eqv s s') (hl : EqvL l l') : EqvL (s :: l) (s' :: l') := fun η G w vs hv => by
  cases vs with
  | nil => exact hv.elim
  | cons v vs => exact ⟨h η G w v hv.1, hl η G w vs hv.2⟩
theorem Eqv.agg {l l' : List SV} (h : EqvL l l') : Eqv (.agg l) (.agg l') := fun η G w v hv => by
  obtain ⟨vs, hvs, hv⟩ := hv
  exact ⟨vs, hvs, h η G w vs hv⟩
theorem Eqv.tup {l l' : List SV} (h : EqvL l l') : Eqv (.tup l) (.tup l') := fun η G w v hv => by
  obtain ⟨vs, hvs, hv⟩ := hv
  exact ⟨vs, hvs, h η G w vs hv⟩
theorem Con.conv {f : Nat} {svs svs' : List SV} {objs : Objs} {r r' : SV} {objs' : Objs} (h : Con f svs objs r objs') (ha : EqvL svs' svs) (hr : Eqv r r') : Con f svs' objs r' objs' := (h.args ha).res hr

theorem mixed : Try.prog.follows .mixedOrders = true := Try.checked.mixed

theorem con_of {f : Nat} {fn : Func} {body : Code} (hf : Try.prog.funcs[f]? = some fn) (hb : fn.body = some body) (hname : (fn.name == "runtime.NumGoroutine") = false) {svs : List SV} {objs : Objs} {r : SV} {objs' : Objs} (n : Nat) (res : List ResultVar)
    (hn : fn.ntmps = n) (hres : fn.results.toList = res) (hl : leN svs.length n = true) (ho : borNames objs = true) (h : FnVC Con E body n res svs objs r objs') (hlt : f < 4096 := by decide) : Con f svs objs r objs' := by
  subst hn; subst hres
  exact ⟨specX_of (spec_of_vc eok rawOk mixed (fun _ _ _ _ _ h => h.spec) hf hb hl ho h) ⟨fn, body, hf, hb, hname⟩ hlt⟩

structure Ent where
  key : List UInt8
  val : List UInt8
  page : Int
  size : Int
  deriving Inhabited

def encE (e : Unit → Ent) : Nat → DV
  | 0 => .bytes fun _ => (e ()).key
  | 1 => .bytes fun _ => (e ()).val
  | 2 => .int .u32 fun _ => (e ()).page
  | _ => .int .u32 fun _ => (e ()).size

def lrow {α : Type} [Inhabited α] (enc : (Unit → α) → Nat → DV) (xs : Unit → List α) : (Unit → Nat) → Nat → DV := fun i j => enc (fun _ => (xs ()).getD (i ()) default) j

def entSV (e : Ent) : SV := .agg [.dat (.bytes fun _ => e.key), .dat (.bytes fun _ => e.val), .int .u32 (.s fun _ => e.page), .int .u32 (.s fun _ => e.size)]
def entsDV (es : List Ent) : DV := .sl 4 (fun _ => es.length) (lrow encE fun _ => es)
def nodeSV (leaf : Bool) (es : List Ent) : SV := .agg [.bool (.s fun _ => leaf), .dat (entsDV es)]

def bytesOfI (leaf : Bool) (k v : List UInt8) (p : Int) : Int := if !leaf then 5 + k.length else if p ≠ 0 then 10 + k.length else 2 + k.length + v.length

theorem con44 {leaf : Bool} {k v : List UInt8} {p s : Int} (h : k.length + v.length < 1000000000000) :
    Con 44 [.bool (.s fun _ => leaf), .agg [.dat (.bytes fun _ => k), .dat (.bytes fun _ => v), .int .u32 (.s fun _ => p), .int .u32 (.s fun _ => s)]] [] (.int .i64 (.s fun _ => bytesOfI leaf k v p)) [] := by
  refine con_of Try.func44 rfl rfl 28 _ rfl rfl rfl rfl ?_
  cbv
  refine ⟨fun h1 => ?_, fun h1 => ?_⟩
  · cbv
    refine ⟨⟨?_⟩, [], [], ?_⟩
    · simp only [bound64, IE.den, ncast]; omega
    · cbv
      refine ⟨⟨?_⟩, ⟨rfl⟩⟩
      simp only [IE.den, bytesOfI, ncast]
      rw [if_pos h1]
  · cbv
    refine ⟨fun h2 => ?_, fun h2 => ?_⟩
    · cbv
      refine ⟨⟨?_⟩, [], [], ?_⟩
      · simp only [bound64, IE.den, ncast]; omega
      · cbv
        refine ⟨⟨?_⟩, ⟨rfl⟩⟩
        simp only [Bool.not_eq_true', Bool.not_eq_false', decide_eq_true_eq, decide_eq_false_iff_not] at h1 h2
        simp only [IE.den] at h1 h2
        simp [IE.den, bytesOfI, ncast, h1, h2]
    · cbv
      refine ⟨⟨?_⟩, ⟨?_⟩, [], [], ?_⟩
      · simp only [bound64, IE.den, ncast]; omega
      · simp only [bound64, IE.den, ncast]; omega
      · cbv
        refine ⟨⟨?_⟩, ⟨rfl⟩⟩
        simp only [Bool.not_eq_true', Bool.not_eq_false', decide_eq_true_eq, decide_eq_false_iff_not] at h1 h2
        simp only [IE.den] at h1 h2
        simp [IE.den, bytesOfI, ncast, h1, h2]

def sizeL (leaf : Bool) : List Ent → Int
  | [] => 0
  | e :: es => bytesOfI leaf e.key e.val e.page + sizeL leaf es

def weight : List Ent → Nat
  | [] => 0
  | e :: es => e.key.length + e.val.length + weight es

theorem getD_take {α : Type} [Inhabited α] (es : List α) {i : Nat} (h : i < es.length) : es.take (i + 1) = es.take i ++ [es.getD i default] := by
  rw [List.take_succ_eq_append_getElem h, List.getD_eq_getElem?_getD, List.getElem?_eq_getElem h]
  rfl

theorem sizeL_app (leaf : Bool) : ∀ (a b : List Ent), sizeL leaf (a ++ b) = sizeL leaf a + sizeL leaf b
  | [], b => by simp [sizeL]
  | e :: a, b => by simp only [List.cons_append, sizeL, sizeL_app leaf a b]; omega

theorem weight_app : ∀ (a b : List Ent), weight (a ++ b) = weight a + weight b
  | [], b => by simp [weight]
  | e :: a, b => by simp only [List.cons_append, weight, weight_app a b]; omega

theorem sizeL_le (leaf : Bool) : ∀ (es : List Ent), 0 ≤ sizeL leaf es ∧ sizeL leaf es ≤ weight es + 10 * es.length
  | [] => by simp [sizeL, weight]
  | e :: es => by
      have := sizeL_le leaf es
      simp only [sizeL, weight, bytesOfI, List.length_cons]
      split
      · omega
      · split <;> omega

theorem weight_take (es : List Ent) {i : Nat} (h : i < es.length) : weight (es.take i) + ((es.getD i default).key.length + (es.getD i default).val.length) ≤ weight es := by
  have e : es = es.take (i + 1) ++ es.drop (i + 1) := (List.take_append_drop _ _).symm
  conv => rhs; rw [e]
  rw [weight_app, getD_take es h, weight_app]
  simp [weight]

theorem con14 {leaf : Bool} {es : List Ent} (h : weight es + 20 * es.length < 1000000000000) :
    Con 14 [nodeSV leaf es] [] (.int .i64 (.s fun _ => 2 + sizeL leaf es)) [] := by
  refine con_of Try.func14 rfl rfl 21 _ rfl rfl rfl rfl ?_
  cbv
  refine ⟨Nat, [], fun i => [(3, .int .i64 (.s fun _ => 2 + sizeL leaf (es.take i))), (9, .int .i64 (.s fun _ => (i : Int)))], fun _ => [(1, .cells 24 [.bool (.s fun _ => leaf), .dat (entsDV es)])],
    fun i => i ≤ es.length, fun i => es.length - i, 0, [], Nat.zero_le _, ⟨?_⟩, fun i hi => ?_⟩
  · cbv
    exact ⟨⟨⟨rfl⟩, ⟨rfl⟩, trivial⟩, ⟨⟨⟨rfl⟩, ⟨rfl, fun _ _ _ _ => rfl⟩, trivial⟩, trivial⟩, ⟨rfl⟩⟩
  · have hi : i ≤ es.length := hi
    cbv
    refine ⟨fun h1 => ?_, fun h1 => ?_⟩
    · have h1 : (i : Int) < (es.length : Int) := of_decide_eq_true h1
      have hlt : i < es.length := by omega
      have hw := weight_take es hlt
      have hs := sizeL_le leaf (es.take i)
      have hs' := sizeL_le leaf (es.take (i + 1))
      rw [getD_take es hlt, sizeL_app, weight_app] at hs'
      simp only [List.length_append, List.length_take] at hs hs'
      simp only [sizeL, weight, List.length_cons, List.length_nil] at hs'
      have b1 : bound64 ((2 + sizeL leaf (es.take i)) + bytesOfI leaf (es.getD i default).key (es.getD i default).val (es.getD i default).page) := by
        unfold bound64
        omega
      have b2 : bound64 ((i : Int) + 1) := by
        unfold bound64
        omega
      clear hs hs' h1
      cbv
      refine ⟨⟨?_⟩, ?_⟩
      · show 0 ≤ (i : Int) ∧ (i : Int) < (es.length : Int)
        omega
      · refine ⟨_, _, con44 ?_, ⟨rfl⟩, ?_⟩
        · show (es.getD i default).key.length + (es.getD i default).val.length < 1000000000000
          omega
        · cbv
          refine ⟨⟨b1⟩, ⟨b2⟩, i + 1, [], ?_, ?_, ⟨rfl⟩, ⟨?_⟩⟩
          · show i + 1 ≤ es.length
            omega
          · show es.length - (i + 1) < es.length - i
            omega
          · cbv
            refine ⟨⟨⟨?_⟩, ⟨?_⟩, trivial⟩, ⟨⟨⟨rfl⟩, ⟨rfl, fun _ _ _ _ => rfl⟩, trivial⟩, trivial⟩, ⟨rfl⟩⟩
            · show (2 + sizeL leaf (es.take i)) + bytesOfI leaf (es.getD i default).key (es.getD i default).val (es.getD i default).page = 2 + sizeL leaf (es.take (i + 1))
              rw [getD_take es hlt, sizeL_app]
              simp only [sizeL]
              omega
            · show (i : Int) + 1 = ((i + 1 : Nat) : Int)
              omega
    · have h1 : ¬ ((i : Int) < (es.length : Int)) := of_decide_eq_false h1
      have hle : es.length ≤ i := by omega
      cbv
      refine ⟨[], [], ?_⟩
      cbv
      refine ⟨⟨?_⟩, ⟨rfl⟩⟩
      show 2 + sizeL leaf (es.take i) = 2 + sizeL leaf es
      rw [List.take_of_length_le hle]
end Go.Proofs.Ytmdfjipjkkjpcaa

/- Node laws: the bytes of a node. -/
namespace Go.Proofs.Ytmdfjipjkkjpcaa
open Go.SX

def lowN (n : Nat) : Nat → Nat
  | 0 => n
  | k + 1 => lowN (n / 256) k
def lowB (n : Nat) : Nat → List UInt8
  | 0 => []
  | k + 1 => UInt8.ofNat n :: lowB (n / 256) k

theorem lowN_succ : ∀ (k n : Nat), lowN n (k + 1) = lowN n k / 256
  | 0, n => rfl
  | k + 1, n => lowN_succ k (n / 256)

theorem lowB_succ : ∀ (k n : Nat), lowB n (k + 1) = lowB n k ++ [UInt8.ofNat (lowN n k)]
  | 0, n => rfl
  | k + 1, n => by
      have := lowB_succ k (n / 256)
      simp only [lowB, List.cons_append, lowN] at this ⊢
      rw [this]

theorem lowB_length : ∀ (k n : Nat), (lowB n k).length = k
  | 0, n => rfl
  | k + 1, n => by simp [lowB, lowB_length k]

theorem lowN_le : ∀ (k n : Nat), lowN n k ≤ n
  | 0, n => Nat.le_refl _
  | k + 1, n => by
      have := lowN_le k (n / 256)
      simp only [lowN]
      omega

theorem u8_wrap (n : Nat) : UInt8.ofNat (IntKind.u8.wrap (n : Int)).toNat = UInt8.ofNat n := by
  rw [IntKind.wrap_u8]
  apply UInt8.toNat.inj
  simp only [UInt8.toNat_ofNat']
  omega

theorem u8_range (n : Int) : 0 ≤ IntKind.u8.wrap n ∧ IntKind.u8.wrap n < 256 := by
  rw [IntKind.wrap_u8]; omega

theorem shr8 (n : Nat) : ((n : Int).fdiv (2 ^ min (8 : Int).toNat IntKind.u32.bits)) = ((n / 256 : Nat) : Int) := by
  have : (2 : Int) ^ min (8 : Int).toNat IntKind.u32.bits = 256 := by decide
  rw [this, Int.fdiv_eq_ediv_of_nonneg _ (by omega)]
  omega

theorem con42 {bs : List UInt8} {n m : Nat} (hm : m ≤ 8) (hl : bs.length < 1000000000000) :
    Con 42 [.own 1000, .int .u32 (.s fun _ => (n : Int)), .int .i64 (.s fun _ => (m : Int))] [(1000, .barr 5 fun _ => bs)] (.own 2000) [(1000, .dead), (2000, .barr 5 fun _ => bs ++ lowB n m)] := by
  refine con_of Try.func42 rfl rfl 19 _ rfl rfl rfl rfl ?_
  cbv
  refine ⟨Nat, [500], fun i => [(0, .own 500), (1, .int .u32 (.s fun _ => (lowN n i : Int))), (8, .int .i64 (.s fun _ => (i : Int)))], fun i => [(1000, .dead), (500, .barr 5 fun _ => bs ++ lowB n i)],
    fun i => i ≤ m, fun i => m - i, 0, [(500, some 1000)], Nat.zero_le _, ⟨?_⟩, fun i hi => ?_⟩
  · cbv
    exact ⟨⟨⟨rfl⟩, ⟨rfl⟩, trivial⟩, ⟨⟨(List.append_nil bs).symm⟩, trivial⟩, ⟨rfl⟩⟩
  · have hi : i ≤ m := hi
    have hlen := lowB_length i n
    cbv
    refine ⟨fun h1 => ?_, fun h1 => ?_⟩
    · have h1 : (i : Int) < (m : Int) := of_decide_eq_true h1
      have hlt : i < m := by omega
      have b2 : bound64 ((i : Int) + 1) := by unfold bound64; omega
      have b1 : lenOk ((bs ++ lowB n i).length + 1) 1 := by unfold lenOk; simp only [List.length_append, hlen]; omega
      have b0 := u8_range (lowN n i : Int)
      have e1 : UInt8.ofNat (IntKind.u8.wrap (lowN n i : Int)).toNat = UInt8.ofNat (lowN n i) := u8_wrap _
      have e2 := lowB_succ i n
      have e3 : ((lowN n i : Int).fdiv (2 ^ min (8 : Int).toNat IntKind.u32.bits)) = ((lowN n (i + 1) : Nat) : Int) := by rw [lowN_succ]; exact shr8 _
      have e4 : (i : Int) + 1 = ((i + 1 : Nat) : Int) := by omega
      have e5 : (bs ++ lowB n i) ++ [UInt8.ofNat (IntKind.u8.wrap (lowN n i : Int)).toNat] = bs ++ lowB n (i + 1) := by rw [e1, e2, List.append_assoc]
      clear h1
      cbv
      refine ⟨⟨⟨b0, trivial⟩, b1⟩, ⟨by decide⟩, ⟨b2⟩, i + 1, [(500, some 14)], hlt, ?_, ⟨rfl⟩, ⟨?_⟩⟩
      · show m - (i + 1) < m - i
        omega
      · cbv
        refine ⟨⟨⟨e3⟩, ⟨e4⟩, trivial⟩, ⟨⟨e5⟩, trivial⟩, ⟨rfl⟩⟩
    · have h1 : ¬ ((i : Int) < (m : Int)) := of_decide_eq_false h1
      have hle : i = m := by omega
      subst hle
      cbv
      refine ⟨[(2000, some 500)], [], ?_⟩
      cbv
      exact ⟨⟨⟨rfl⟩, trivial⟩, ⟨rfl⟩⟩
theorem con42n {n m : Nat} (hm : m ≤ 8) :
    Con 42 [.nil, .int .u32 (.s fun _ => (n : Int)), .int .i64 (.s fun _ => (m : Int))] [] (.own 2000) [(2000, .barr 5 fun _ => lowB n m)] := by
  refine con_of Try.func42 rfl rfl 19 _ rfl rfl rfl rfl ?_
  cbv
  refine ⟨Nat, [500], fun i => [(0, .own 500), (1, .int .u32 (.s fun _ => (lowN n i : Int))), (8, .int .i64 (.s fun _ => (i : Int)))], fun i => [(500, .barr 5 fun _ => lowB n i)],
    fun i => i ≤ m, fun i => m - i, 0, [(500, none)], Nat.zero_le _, ⟨?_⟩, fun i hi => ?_⟩
  · cbv
    exact ⟨⟨⟨rfl⟩, ⟨rfl⟩, trivial⟩, ⟨⟨rfl⟩, trivial⟩, ⟨rfl⟩⟩
  · have hi : i ≤ m := hi
    have hlen := lowB_length i n
    cbv
    refine ⟨fun h1 => ?_, fun h1 => ?_⟩
    · have h1 : (i : Int) < (m : Int) := of_decide_eq_true h1
      have hlt : i < m := by omega
      have b2 : bound64 ((i : Int) + 1) := by unfold bound64; omega
      have b1 : lenOk ((lowB n i).length + 1) 1 := by unfold lenOk; rw [hlen]; omega
      have b0 := u8_range (lowN n i : Int)
      have e1 : UInt8.ofNat (IntKind.u8.wrap (lowN n i : Int)).toNat = UInt8.ofNat (lowN n i) := u8_wrap _
      have e2 := lowB_succ i n
      have e3 : ((lowN n i : Int).fdiv (2 ^ min (8 : Int).toNat IntKind.u32.bits)) = ((lowN n (i + 1) : Nat) : Int) := by rw [lowN_succ]; exact shr8 _
      have e4 : (i : Int) + 1 = ((i + 1 : Nat) : Int) := by omega
      have e5 : lowB n i ++ [UInt8.ofNat (IntKind.u8.wrap (lowN n i : Int)).toNat] = lowB n (i + 1) := by rw [e1, e2]
      clear h1
      cbv
      refine ⟨⟨⟨b0, trivial⟩, b1⟩, ⟨by decide⟩, ⟨b2⟩, i + 1, [(500, some 14)], hlt, ?_, ⟨rfl⟩, ⟨?_⟩⟩
      · show m - (i + 1) < m - i
        omega
      · cbv
        refine ⟨⟨⟨e3⟩, ⟨e4⟩, trivial⟩, ⟨⟨e5⟩, trivial⟩, ⟨rfl⟩⟩
    · have h1 : ¬ ((i : Int) < (m : Int)) := of_decide_eq_false h1
      have hle : i = m := by omega
      subst hle
      cbv
      refine ⟨[(2000, some 500)], [], ?_⟩
      cbv
      exact ⟨⟨⟨rfl⟩, trivial⟩, ⟨rfl⟩⟩


def isPageB (n : Int) : Bool := decide (2 ≤ n) && decide (n < 16384)

theorem con98 {n : Int} : Con 98 [.int .u32 (.s fun _ => n)] [] (.bool (.s fun _ => isPageB n)) [] := by
  refine con_of Try.func98 rfl rfl 9 _ rfl rfl rfl rfl ?_
  cbv
  refine ⟨fun h1 => ?_, fun h1 => ?_⟩
  · have h1 : 2 ≤ n := of_decide_eq_true h1
    have e : decide (n < 16384) = isPageB n := by simp [isPageB, h1]
    cbv
    refine ⟨[], [], ?_⟩
    cbv
    exact ⟨⟨e⟩, ⟨rfl⟩⟩
  · have h1 : ¬ (2 ≤ n) := of_decide_eq_false h1
    have e : false = isPageB n := by simp [isPageB, h1]
    cbv
    refine ⟨[], [], ?_⟩
    cbv
    exact ⟨⟨e⟩, ⟨rfl⟩⟩

def kidB (e : Ent) : Bool := decide (e.val.length = 0) && (decide (e.size = 0) && isPageB e.page)

theorem con86 {e : Ent} : Con 86 [entSV e] [] (.bool (.s fun _ => kidB e)) [] := by
  refine con_of Try.func86 rfl rfl 17 _ rfl rfl rfl rfl ?_
  cbv
  refine ⟨fun h1 => ?_, fun h1 => ?_⟩
  · have h1 : (e.val.length : Int) = 0 := of_decide_eq_true h1
    have h1 : e.val.length = 0 := by omega
    cbv
    refine ⟨fun h2 => ?_, fun h2 => ?_⟩
    · have h2 : e.size = 0 := of_decide_eq_true h2
      have e1 : isPageB e.page = kidB e := by simp [kidB, h1, h2]
      cbv
      refine ⟨_, _, con98, ⟨rfl⟩, ?_⟩
      cbv
      refine ⟨[], [], ?_⟩
      cbv
      exact ⟨⟨e1⟩, ⟨rfl⟩⟩
    · have h2 : ¬ (e.size = 0) := of_decide_eq_false h2
      have e1 : false = kidB e := by simp [kidB, h2]
      cbv
      refine ⟨[], [], ?_⟩
      cbv
      exact ⟨⟨e1⟩, ⟨rfl⟩⟩
  · have h1 : ¬ ((e.val.length : Int) = 0) := of_decide_eq_false h1
    have h1 : ¬ (e.val.length = 0) := by omega
    have e1 : false = kidB e := by simp only [kidB, h1, decide_false, Bool.false_and]
    cbv
    refine ⟨[], [], ?_⟩
    cbv
    exact ⟨⟨e1⟩, ⟨rfl⟩⟩
def leafyB (e : Ent) : Bool :=
  if e.page = 0 then decide (e.size = 0) && decide (e.val.length ≤ 64)
  else decide (e.val.length = 0) && (isPageB e.page && (decide (64 < e.size) && decide (e.size ≤ 8192)))

theorem con87 {e : Ent} : Con 87 [entSV e] [] (.bool (.s fun _ => leafyB e)) [] := by
  refine con_of Try.func87 rfl rfl 34 _ rfl rfl rfl rfl ?_
  cbv
  refine ⟨fun h1 => ?_, fun h1 => ?_⟩
  · have h1 : e.page = 0 := of_decide_eq_true h1
    have e0 : leafyB e = (decide (e.size = 0) && decide (e.val.length ≤ 64)) := if_pos h1
    cbv
    refine ⟨fun h2 => ?_, fun h2 => ?_⟩
    · have h2 : e.size = 0 := of_decide_eq_true h2
      have e2 : decide ((e.val.length : Int) ≤ 64) = decide (e.val.length ≤ 64) := decide_eq_decide.2 (by omega)
      have e1 : decide ((e.val.length : Int) ≤ 64) = leafyB e := by rw [e0, h2, e2]; rfl
      clear e0
      cbv
      refine ⟨[], [], ?_⟩
      cbv
      exact ⟨⟨e1⟩, ⟨rfl⟩⟩
    · have h2 : ¬ (e.size = 0) := of_decide_eq_false h2
      have e1 : false = leafyB e := by rw [e0]; simp only [h2, decide_false, Bool.false_and]
      clear e0
      cbv
      refine ⟨[], [], ?_⟩
      cbv
      exact ⟨⟨e1⟩, ⟨rfl⟩⟩
  · have h1 : ¬ (e.page = 0) := of_decide_eq_false h1
    have e0 : leafyB e = (decide (e.val.length = 0) && (isPageB e.page && (decide (64 < e.size) && decide (e.size ≤ 8192)))) := if_neg h1
    cbv
    refine ⟨fun h2 => ?_, fun h2 => ?_⟩
    · have h2 : (e.val.length : Int) = 0 := of_decide_eq_true h2
      have h2 : e.val.length = 0 := by omega
      have e0 : leafyB e = (isPageB e.page && (decide (64 < e.size) && decide (e.size ≤ 8192))) := by rw [e0, h2]; rfl
      clear h2
      cbv
      refine ⟨_, _, con98, ⟨rfl⟩, ?_⟩
      cbv
      refine ⟨fun h3 => ?_, fun h3 => ?_⟩
      · have h3 : isPageB e.page = true := h3
        have e0 : leafyB e = (decide (64 < e.size) && decide (e.size ≤ 8192)) := by rw [e0, h3]; rfl
        cbv
        refine ⟨fun h4 => ?_, fun h4 => ?_⟩
        · have h4 : 64 < e.size := of_decide_eq_true h4
          have e1 : decide (e.size ≤ 8192) = leafyB e := by rw [e0]; simp only [h4, decide_true, Bool.true_and]
          clear e0
          cbv
          refine ⟨[], [], ?_⟩
          cbv
          exact ⟨⟨e1⟩, ⟨rfl⟩⟩
        · have h4 : ¬ (64 < e.size) := of_decide_eq_false h4
          have e1 : false = leafyB e := by rw [e0]; simp only [h4, decide_false, Bool.false_and]
          clear e0
          cbv
          refine ⟨[], [], ?_⟩
          cbv
          exact ⟨⟨e1⟩, ⟨rfl⟩⟩
      · have h3 : isPageB e.page = false := h3
        have e1 : false = leafyB e := by rw [e0, h3]; rfl
        clear e0
        cbv
        refine ⟨[], [], ?_⟩
        cbv
        exact ⟨⟨e1⟩, ⟨rfl⟩⟩
    · have h2 : ¬ ((e.val.length : Int) = 0) := of_decide_eq_false h2
      have h2 : ¬ (e.val.length = 0) := by omega
      have e1 : false = leafyB e := by rw [e0]; simp only [h2, decide_false, Bool.false_and]
      clear e0 h2
      cbv
      refine ⟨[], [], ?_⟩
      cbv
      exact ⟨⟨e1⟩, ⟨rfl⟩⟩
end Go.Proofs.Ytmdfjipjkkjpcaa

/- Node laws: what has no body. -/
namespace Go.Proofs.Ytmdfjipjkkjpcaa
open Go.SX

theorem run_loadBytes {P : Program} {w : World} : ∀ (l : List UInt8) (b o : Nat) (acc : ByteArray), (∀ (j : Nat) (x : UInt8), l[j]? = some x → w.cell? ⟨b, o + j, none⟩ = some (.int .u8 (x.toNat : Int))) →
    (Extern.Bytes.loadBytes ⟨b, o, none⟩ l.length acc).run P w = .ok ⟨acc.data ++ l.toArray⟩ w
  | [], b, o, acc, _ => by simp [Extern.Bytes.loadBytes]
  | x :: l, b, o, acc, h => by
      have h0 : w.cell? ⟨b, o, none⟩ = some (.int .u8 (x.toNat : Int)) := by simpa using h 0 x rfl
      have ih := run_loadBytes (P := P) (w := w) l b (o + 1) (acc.push x) fun j y hj => by
        have := h (j + 1) y (by simpa using hj)
        rwa [show o + (j + 1) = o + 1 + j by omega] at this
      simp only [List.length_cons, Extern.Bytes.loadBytes]
      simp only [Sem.run_bind, run_load, h0, Result.andThen_ok, add_none]
      have hx : (x.toNat : Int).toNat.toUInt8 = x := by simp
      rw [hx, ih]
      simp [ByteArray.push]

theorem run_bytesOf {P : Program} {w : World} {S : Nat → Prop} {l : List UInt8} {v : Value} (h : DVRel w S (.bytes fun _ => l) v) : (Extern.Bytes.bytesOf v).run P w = .ok ⟨l.toArray⟩ w := by
  simp only [DVRel] at h
  obtain ⟨p, c, rfl, hc, hr⟩ := h
  cases l with
  | nil =>
    cases p with
    | none => rfl
    | some q => obtain ⟨b, o, f⟩ := q; simp [Extern.Bytes.bytesOf, Extern.Bytes.loadBytes]; rfl
  | cons x l =>
    obtain ⟨b, o, rfl, _, _⟩ := hr 0 x rfl
    have := run_loadBytes (P := P) (w := w) (x :: l) b o .empty fun j y hj => by
      obtain ⟨b', o', e, _, hcell⟩ := hr j y hj
      cases e
      exact hcell
    simp only [Extern.Bytes.bytesOf]
    rw [this]
    simp

theorem con96 {a b : List UInt8} : Con 96 [.dat (.bytes fun _ => a), .dat (.bytes fun _ => b)] [] (.int .i64 (.s fun _ => Lib.compareBytes a b)) [] := by
  refine ⟨fun η G vs w hsep hob hs => ?_⟩
  match vs, hs with
  | [va, vb], hs =>
    simp only [SVRels, SVRel] at hs
    obtain ⟨ha, hb, _⟩ := hs
    refine .inr ⟨.int .i64 (Lib.compareBytes a b), w, ?_, η, G, by simp [SVRel, IE.den], hob, hsep, Evol.refl η G w⟩
    have he : Extern.find Try.f96 = some Extern.BytealgCompare.compare := by kernel_rfl
    have hn : Extern.findNext Try.f96 = none := by kernel_rfl
    rw [run_callFunc_extern Try.func96 (by kernel_rfl) (by kernel_rfl) hn he]
    have hr : (Extern.BytealgCompare.compare #[va, vb]).run Try.prog w = .ok (.int .i64 (Lib.compareBytes a b)) w := by
      change Sem.run Try.prog (do pure (goInt (Extern.BytealgCompare.cmp (← Extern.Bytes.bytesOf va) (← Extern.Bytes.bytesOf vb)))) w = _
      simp only [Sem.run_bind, Sem.run_pure, run_bytesOf ha, run_bytesOf hb, Result.andThen_ok]
      rw [Lib.cmp_eq]
      rfl
    rw [hr]
    rfl
  | [], h => simp [SVRels] at h
  | [_], h => simp [SVRels] at h
  | _ :: _ :: _ :: _, h => simp [SVRels] at h

theorem con79 {a b : List UInt8} : Con 79 [.dat (.bytes fun _ => a), .dat (.bytes fun _ => b)] [] (.int .i64 (.s fun _ => Lib.compareBytes a b)) [] := by
  refine con_of Try.func79 rfl rfl 8 _ rfl rfl rfl rfl ?_
  cbv
  refine ⟨_, _, con96, ⟨rfl⟩, ?_⟩
  cbv
  refine ⟨[], [], ?_⟩
  cbv
  exact ⟨⟨rfl⟩, ⟨rfl⟩⟩
end Go.Proofs.Ytmdfjipjkkjpcaa

/- Node laws: what may be a page. -/
namespace Go.Proofs.Ytmdfjipjkkjpcaa
open Go.SX

def EntOk (e : Ent) : Prop := (0 ≤ e.page ∧ e.page < 4294967296) ∧ 0 ≤ e.size ∧ e.size < 4294967296

def keyBad (leaf : Bool) (i : Nat) (e : Ent) : Bool :=
  ((decide (i = 0) && !leaf) != decide (e.key.length = 0)) || (decide (160 < e.key.length) || !(if leaf then leafyB e else kidB e))
def seenL (l : List Ent) : List Int := l.foldl (fun ks e => putKey ks e.page) []
def orderBad (leaf : Bool) (es : List Ent) (i : Nat) (e : Ent) : Bool :=
  (decide (0 < i) && decide (0 ≤ Lib.compareBytes (es.getD (i - 1) default).key e.key)) || (!leaf && (seenL (es.take i)).contains e.page)
def okAt (leaf : Bool) (es : List Ent) (i : Nat) : Bool := !keyBad leaf i (es.getD i default) && !orderBad leaf es i (es.getD i default)
def okTo (leaf : Bool) (es : List Ent) : Nat → Bool
  | 0 => true
  | i + 1 => okTo leaf es i && okAt leaf es i
def mayB (leaf : Bool) (es : List Ent) : Bool := okTo leaf es es.length && decide (0 < es.length)

theorem okTo_add {leaf : Bool} {es : List Ent} {i : Nat} (h : okAt leaf es i = false) : ∀ k, okTo leaf es (i + 1 + k) = false
  | 0 => by simp only [Nat.add_zero, okTo, h, Bool.and_false]
  | k + 1 => by
      rw [show i + 1 + (k + 1) = (i + 1 + k) + 1 from rfl]
      simp only [okTo, okTo_add h k, Bool.false_and]

theorem may_bad {leaf : Bool} {es : List Ent} {i : Nat} (hi : i < es.length) (h : okAt leaf es i = false) : false = mayB leaf es := by
  have := okTo_add h (es.length - (i + 1))
  rw [show i + 1 + (es.length - (i + 1)) = es.length by omega] at this
  simp only [mayB, this, Bool.false_and]
theorem may_badK {leaf : Bool} {es : List Ent} {i : Nat} (hi : i < es.length) (h : keyBad leaf i (es.getD i default) = true) : false = mayB leaf es :=
  may_bad hi (by simp only [okAt, h, Bool.not_true, Bool.false_and])
theorem may_badO {leaf : Bool} {es : List Ent} {i : Nat} (hi : i < es.length) (h : orderBad leaf es i (es.getD i default) = true) : false = mayB leaf es :=
  may_bad hi (by simp only [okAt, h, Bool.not_true, Bool.and_false])
theorem okTo_next {leaf : Bool} {es : List Ent} {i : Nat} (h0 : okTo leaf es i = true) (h1 : keyBad leaf i (es.getD i default) = false) (h2 : orderBad leaf es i (es.getD i default) = false) : okTo leaf es (i + 1) = true := by
  simp only [okTo, okAt, h0, h1, h2, Bool.not_false, Bool.and_true]
theorem seen_next {es : List Ent} {i : Nat} (hi : i < es.length) : putKey (seenL (es.take i)) (es.getD i default).page = seenL (es.take (i + 1)) := by
  rw [getD_take es hi]
  simp only [seenL, List.foldl_append, List.foldl_cons, List.foldl_nil]
theorem keyBad1 {leaf c : Bool} {i : Nat} {e : Ent} (hc : (decide (i = 0) && !leaf) = c) (h : (c != decide ((e.key.length : Int) = 0)) = true) : keyBad leaf i e = true := by
  have : decide ((e.key.length : Int) = 0) = decide (e.key.length = 0) := decide_eq_decide.2 (by omega)
  simp only [keyBad, hc, ← this, h, Bool.true_or]
theorem keyBad2 {leaf : Bool} {i : Nat} {e : Ent} (h : (160 : Int) < (e.key.length : Int)) : keyBad leaf i e = true := by
  have : decide (160 < e.key.length) = true := decide_eq_true (by omega)
  simp only [keyBad, this, Bool.true_or, Bool.or_true]
theorem keyBad3 {leaf : Bool} {i : Nat} {e : Ent} (h : (if leaf then leafyB e else kidB e) = false) : keyBad leaf i e = true := by
  simp only [keyBad, h, Bool.not_false, Bool.or_true]
theorem keyBad4 {leaf c : Bool} {i : Nat} {e : Ent} (hc : (decide (i = 0) && !leaf) = c) (h : (c != decide ((e.key.length : Int) = 0)) = false)
    (h2 : ¬ (160 : Int) < (e.key.length : Int)) (h3 : (if leaf then leafyB e else kidB e) = true) : keyBad leaf i e = false := by
  have e1 : decide ((e.key.length : Int) = 0) = decide (e.key.length = 0) := decide_eq_decide.2 (by omega)
  have e2 : decide (160 < e.key.length) = false := decide_eq_false (by omega)
  simp only [keyBad, hc, ← e1, h, e2, h3, Bool.not_true, Bool.or_false]
theorem entOk_at {es : List Ent} (hp : ∀ e ∈ es, EntOk e) {i : Nat} (hi : i < es.length) : EntOk (es.getD i default) := by
  rw [List.getD_eq_getElem?_getD, List.getElem?_eq_getElem hi]
  exact hp _ (List.getElem_mem hi)
theorem order1 {leaf : Bool} {es : List Ent} {i : Nat} {e : Ent} (hi : 0 < i) (h : (0 : Int) ≤ Lib.compareBytes (es.getD (i - 1) default).key e.key) : orderBad leaf es i e = true := by
  simp only [orderBad, decide_eq_true hi, decide_eq_true h, Bool.and_true, Bool.true_or]
theorem order2 {es : List Ent} {i : Nat} {e : Ent} (h : (seenL (es.take i)).contains e.page = true) : orderBad false es i e = true := by
  simp only [orderBad, h, Bool.not_false, Bool.and_true, Bool.or_true]
theorem order3 {leaf : Bool} {es : List Ent} {i : Nat} {e : Ent} (hi : 0 < i → ¬ (0 : Int) ≤ Lib.compareBytes (es.getD (i - 1) default).key e.key) (h : leaf = false → (seenL (es.take i)).contains e.page = false) : orderBad leaf es i e = false := by
  have h1 : (decide (0 < i) && decide (0 ≤ Lib.compareBytes (es.getD (i - 1) default).key e.key)) = false := by
    by_cases h0 : 0 < i
    · simp only [decide_eq_false (hi h0), Bool.and_false]
    · simp only [decide_eq_false h0, Bool.false_and]
  have h2 : (!leaf && (seenL (es.take i)).contains e.page) = false := by
    cases leaf
    · simp only [h rfl, Bool.and_false]
    · simp only [Bool.not_true, Bool.false_and]
  simp only [orderBad, h1, h2, Bool.or_false]
theorem bnot_t {b : Bool} (h : (!b) = true) : b = false := by cases b <;> simp_all
theorem bnot_f {b : Bool} (h : (!b) = false) : b = true := by cases b <;> simp_all
theorem keyObl_u32 {x : Int} (h : 0 ≤ x ∧ x < 4294967296) : keyObl .u32 x := by
  unfold keyObl; rw [IntKind.wrap_u32]; omega
set_option maxRecDepth 20000 in
set_option maxHeartbeats 4000000 in
theorem con43t {es : List Ent} (hp : ∀ e ∈ es, EntOk e) (hw : weight es + 20 * es.length < 1000000000000) : Con 43 [nodeSV true es] [] (.bool (.s fun _ => mayB true es)) [] := by
  refine con_of Try.func43 rfl rfl 78 _ rfl rfl rfl rfl ?_
  cbv
  refine ⟨fun _ => ?_, fun h => by cases h⟩
  cbv
  refine ⟨Nat, [], fun i => [(14, .int .i64 (.s fun _ => (i : Int)))], fun i => [(1, .cells 24 [.bool .t, .dat (entsDV es)]), (10, .setI .u32 fun _ => seenL (es.take i))],
    fun i => i ≤ es.length ∧ okTo true es i = true, fun i => es.length - i, 0, [], ⟨Nat.zero_le _, rfl⟩, ⟨?_⟩, fun i hi => ?_⟩
  · cbv
    exact ⟨⟨⟨rfl⟩, trivial⟩, ⟨⟨⟨rfl⟩, ⟨rfl, fun _ _ _ _ => rfl⟩, trivial⟩, ⟨rfl⟩, trivial⟩, ⟨by kernel_rfl⟩⟩
  · obtain ⟨hi, hok⟩ : i ≤ es.length ∧ okTo true es i = true := hi
    cbv
    refine ⟨fun h1 => ?_, fun h1 => ?_⟩
    · have h1 : (i : Int) < (es.length : Int) := of_decide_eq_true h1
      have hlt : i < es.length := by omega
      have o1 : indexObl (i : Int) es.length := ⟨by omega, h1⟩
      have hpg : keyObl .u32 (es.getD i default).page := keyObl_u32 (entOk_at hp hlt).1
      have bi : bound64 ((i : Int) + 1) := by unfold bound64; omega
      have ei : (i : Int) + 1 = ((i + 1 : Nat) : Int) := by omega
      have hsn := seen_next hlt
      clear h1
      cbv
      refine ⟨⟨o1⟩, ?_⟩
      refine ⟨fun h2 => ?_, fun h2 => ?_⟩
      · have h2 : (i : Int) = 0 := of_decide_eq_true h2
        have hz : i = 0 := by omega
        have hnp : ¬ (0 : Int) < (i : Int) := by omega
        have hnn : ¬ 0 < i := by omega
        have hc : (decide (i = 0) && !true) = false := by rw [hz]; rfl
        cbv
        refine ⟨fun h3 => ?_, fun h3 => ?_⟩
        · have h3 : (false != decide (((es.getD i default).key.length : Int) = 0)) = true := h3
          have e1 := may_badK hlt (keyBad1 hc h3)
          cbv
          refine ⟨[], [], ?_⟩
          cbv
          exact ⟨⟨e1⟩, ⟨by kernel_rfl⟩⟩
        · have h3 : (false != decide (((es.getD i default).key.length : Int) = 0)) = false := h3
          cbv
          refine ⟨fun h4 => ?_, fun h4 => ?_⟩
          · have h4 : (160 : Int) < ((es.getD i default).key.length : Int) := of_decide_eq_true h4
            have e1 := may_badK hlt (keyBad2 (leaf := true) (i := i) h4)
            cbv
            refine ⟨[], [], ?_⟩
            cbv
            exact ⟨⟨e1⟩, ⟨by kernel_rfl⟩⟩
          · have h4 : ¬ (160 : Int) < ((es.getD i default).key.length : Int) := of_decide_eq_false h4
            cbv
            refine ⟨_, _, con87 (e := es.getD i default), ⟨rfl⟩, ?_⟩
            cbv
            refine ⟨fun h5 => ?_, fun h5 => ?_⟩
            · have h5 : (if true then leafyB (es.getD i default) else kidB (es.getD i default)) = false := bnot_t h5
              have e1 := may_badK hlt (keyBad3 h5)
              cbv
              refine ⟨[], [], ?_⟩
              cbv
              exact ⟨⟨e1⟩, ⟨by kernel_rfl⟩⟩
            · have h5 : (if true then leafyB (es.getD i default) else kidB (es.getD i default)) = true := bnot_f h5
              have hk := keyBad4 hc h3 h4 h5
              cbv
              refine ⟨fun h6 => ?_, fun h6 => ?_⟩
              · have h6 : (0 : Int) < (i : Int) := of_decide_eq_true h6
                exfalso
                exact hnp h6
              · clear h6
                cbv
                refine ⟨⟨by kernel_rfl⟩, ?_⟩
                have hn : okTo true es (i + 1) = true := okTo_next hok hk (order3 (fun h => absurd h hnn) (fun h => by cases h))
                cbv
                refine ⟨⟨hpg⟩, ⟨bi⟩, i + 1, [], ⟨hlt, hn⟩, ?_, ⟨?_⟩, ⟨?_⟩⟩
                · show es.length - (i + 1) < es.length - i
                  omega
                · kernel_rfl
                · cbv
                  exact ⟨⟨⟨ei⟩, trivial⟩, ⟨⟨⟨rfl⟩, ⟨rfl, fun _ _ _ _ => rfl⟩, trivial⟩, ⟨hsn⟩, trivial⟩, ⟨by kernel_rfl⟩⟩
      · have h2 : ¬ (i : Int) = 0 := of_decide_eq_false h2
        have hpos : 0 < i := by omega
        have hpp : (0 : Int) < (i : Int) := by omega
        have hc : (decide (i = 0) && !true) = false := by rw [decide_eq_false (by omega)]; rfl
        have bm : bound64 ((i : Int) - 1) := by unfold bound64; omega
        have om : indexObl ((i : Int) - 1) es.length := ⟨by omega, by omega⟩
        have et : ((i : Int) - 1).toNat = i - 1 := by omega
        cbv
        refine ⟨fun h3 => ?_, fun h3 => ?_⟩
        · have h3 : (false != decide (((es.getD i default).key.length : Int) = 0)) = true := h3
          have e1 := may_badK hlt (keyBad1 hc h3)
          cbv
          refine ⟨[], [], ?_⟩
          cbv
          exact ⟨⟨e1⟩, ⟨by kernel_rfl⟩⟩
        · have h3 : (false != decide (((es.getD i default).key.length : Int) = 0)) = false := h3
          cbv
          refine ⟨fun h4 => ?_, fun h4 => ?_⟩
          · have h4 : (160 : Int) < ((es.getD i default).key.length : Int) := of_decide_eq_true h4
            have e1 := may_badK hlt (keyBad2 (leaf := true) (i := i) h4)
            cbv
            refine ⟨[], [], ?_⟩
            cbv
            exact ⟨⟨e1⟩, ⟨by kernel_rfl⟩⟩
          · have h4 : ¬ (160 : Int) < ((es.getD i default).key.length : Int) := of_decide_eq_false h4
            cbv
            refine ⟨_, _, con87 (e := es.getD i default), ⟨rfl⟩, ?_⟩
            cbv
            refine ⟨fun h5 => ?_, fun h5 => ?_⟩
            · have h5 : (if true then leafyB (es.getD i default) else kidB (es.getD i default)) = false := bnot_t h5
              have e1 := may_badK hlt (keyBad3 h5)
              cbv
              refine ⟨[], [], ?_⟩
              cbv
              exact ⟨⟨e1⟩, ⟨by kernel_rfl⟩⟩
            · have h5 : (if true then leafyB (es.getD i default) else kidB (es.getD i default)) = true := bnot_f h5
              have hk := keyBad4 hc h3 h4 h5
              cbv
              refine ⟨fun h6 => ?_, fun h6 => ?_⟩
              · clear h6
                cbv
                refine ⟨⟨?_⟩, ⟨?_⟩, _, _, con79, ⟨?_⟩, ?_⟩
                · exact bm
                · exact om
                · rfl
                cbv
                refine ⟨fun h7 => ?_, fun h7 => ?_⟩
                · have h7 : (0 : Int) ≤ Lib.compareBytes (es.getD (i - 1) default).key (es.getD i default).key := by
                    have h7 := of_decide_eq_true h7
                    rw [← et]
                    exact h7
                  have e1 := may_badO hlt (order1 (leaf := true) hpos h7)
                  cbv
                  refine ⟨⟨by kernel_rfl⟩, ?_⟩
                  cbv
                  refine ⟨[], [], ?_⟩
                  cbv
                  exact ⟨⟨e1⟩, ⟨by kernel_rfl⟩⟩
                · have h7 : ¬ (0 : Int) ≤ Lib.compareBytes (es.getD (i - 1) default).key (es.getD i default).key := by
                    have h7 := of_decide_eq_false h7
                    rw [← et]
                    exact h7
                  cbv
                  refine ⟨⟨by kernel_rfl⟩, ?_⟩
                  have hn : okTo true es (i + 1) = true := okTo_next hok hk (order3 (fun _ => h7) (fun h => by cases h))
                  cbv
                  refine ⟨⟨hpg⟩, ⟨bi⟩, i + 1, [], ⟨hlt, hn⟩, ?_, ⟨?_⟩, ⟨?_⟩⟩
                  · show es.length - (i + 1) < es.length - i
                    omega
                  · kernel_rfl
                  · cbv
                    exact ⟨⟨⟨ei⟩, trivial⟩, ⟨⟨⟨rfl⟩, ⟨rfl, fun _ _ _ _ => rfl⟩, trivial⟩, ⟨hsn⟩, trivial⟩, ⟨by kernel_rfl⟩⟩
              · have h6 : ¬ (0 : Int) < (i : Int) := of_decide_eq_false h6
                exfalso
                exact h6 hpp
    · have h1 : ¬ ((i : Int) < (es.length : Int)) := of_decide_eq_false h1
      have hle : i = es.length := by omega
      subst hle
      have e1 : decide ((0 : Int) < (es.length : Int)) = mayB true es := by
        unfold mayB; rw [hok, Bool.true_and]; exact decide_eq_decide.2 (by omega)
      clear h1
      cbv
      refine ⟨[], [], ?_⟩
      cbv
      exact ⟨⟨e1⟩, ⟨by kernel_rfl⟩⟩
set_option maxRecDepth 20000 in
set_option maxHeartbeats 4000000 in
theorem con43f {es : List Ent} (hp : ∀ e ∈ es, EntOk e) (hw : weight es + 20 * es.length < 1000000000000) : Con 43 [nodeSV false es] [] (.bool (.s fun _ => mayB false es)) [] := by
  refine con_of Try.func43 rfl rfl 78 _ rfl rfl rfl rfl ?_
  cbv
  refine ⟨fun h => (by cases h), fun _ => ?_⟩
  cbv
  refine ⟨Nat, [], fun i => [(14, .int .i64 (.s fun _ => (i : Int)))], fun i => [(1, .cells 24 [.bool .f, .dat (entsDV es)]), (10, .setI .u32 fun _ => seenL (es.take i))],
    fun i => i ≤ es.length ∧ okTo false es i = true, fun i => es.length - i, 0, [], ⟨Nat.zero_le _, rfl⟩, ⟨?_⟩, fun i hi => ?_⟩
  · cbv
    exact ⟨⟨⟨rfl⟩, trivial⟩, ⟨⟨⟨rfl⟩, ⟨rfl, fun _ _ _ _ => rfl⟩, trivial⟩, ⟨rfl⟩, trivial⟩, ⟨by kernel_rfl⟩⟩
  · obtain ⟨hi, hok⟩ : i ≤ es.length ∧ okTo false es i = true := hi
    cbv
    refine ⟨fun h1 => ?_, fun h1 => ?_⟩
    · have h1 : (i : Int) < (es.length : Int) := of_decide_eq_true h1
      have hlt : i < es.length := by omega
      have o1 : indexObl (i : Int) es.length := ⟨by omega, h1⟩
      have hpg : keyObl .u32 (es.getD i default).page := keyObl_u32 (entOk_at hp hlt).1
      have bi : bound64 ((i : Int) + 1) := by unfold bound64; omega
      have ei : (i : Int) + 1 = ((i + 1 : Nat) : Int) := by omega
      have hsn := seen_next hlt
      clear h1
      cbv
      refine ⟨⟨o1⟩, ?_⟩
      refine ⟨fun h2 => ?_, fun h2 => ?_⟩
      · have h2 : (i : Int) = 0 := of_decide_eq_true h2
        have hz : i = 0 := by omega
        have hnp : ¬ (0 : Int) < (i : Int) := by omega
        have hnn : ¬ 0 < i := by omega
        have hc : (decide (i = 0) && !false) = true := by rw [hz]; rfl
        cbv
        refine ⟨fun h3 => ?_, fun h3 => ?_⟩
        · have h3 : (true != decide (((es.getD i default).key.length : Int) = 0)) = true := h3
          have e1 := may_badK hlt (keyBad1 hc h3)
          cbv
          refine ⟨[], [], ?_⟩
          cbv
          exact ⟨⟨e1⟩, ⟨by kernel_rfl⟩⟩
        · have h3 : (true != decide (((es.getD i default).key.length : Int) = 0)) = false := h3
          cbv
          refine ⟨fun h4 => ?_, fun h4 => ?_⟩
          · have h4 : (160 : Int) < ((es.getD i default).key.length : Int) := of_decide_eq_true h4
            have e1 := may_badK hlt (keyBad2 (leaf := false) (i := i) h4)
            cbv
            refine ⟨[], [], ?_⟩
            cbv
            exact ⟨⟨e1⟩, ⟨by kernel_rfl⟩⟩
          · have h4 : ¬ (160 : Int) < ((es.getD i default).key.length : Int) := of_decide_eq_false h4
            cbv
            refine ⟨_, _, con86 (e := es.getD i default), ⟨rfl⟩, ?_⟩
            cbv
            refine ⟨fun h5 => ?_, fun h5 => ?_⟩
            · have h5 : (if false then leafyB (es.getD i default) else kidB (es.getD i default)) = false := bnot_t h5
              have e1 := may_badK hlt (keyBad3 h5)
              cbv
              refine ⟨[], [], ?_⟩
              cbv
              exact ⟨⟨e1⟩, ⟨by kernel_rfl⟩⟩
            · have h5 : (if false then leafyB (es.getD i default) else kidB (es.getD i default)) = true := bnot_f h5
              have hk := keyBad4 hc h3 h4 h5
              cbv
              refine ⟨fun h6 => ?_, fun h6 => ?_⟩
              · have h6 : (0 : Int) < (i : Int) := of_decide_eq_true h6
                exfalso
                exact hnp h6
              · clear h6
                cbv
                refine ⟨⟨hpg⟩, ?_⟩
                cbv
                refine ⟨⟨by kernel_rfl⟩, ?_⟩
                cbv
                refine ⟨fun h8 => ?_, fun h8 => ?_⟩
                · have h8 : (seenL (es.take i)).contains (es.getD i default).page = true := h8
                  have e1 := may_badO hlt (order2 h8)
                  cbv
                  refine ⟨[], [], ?_⟩
                  cbv
                  exact ⟨⟨e1⟩, ⟨by kernel_rfl⟩⟩
                · have h8 : (seenL (es.take i)).contains (es.getD i default).page = false := h8
                  have hn : okTo false es (i + 1) = true := okTo_next hok hk (order3 (fun h => absurd h hnn) (fun _ => h8))
                  cbv
                  refine ⟨⟨hpg⟩, ⟨bi⟩, i + 1, [], ⟨hlt, hn⟩, ?_, ⟨?_⟩, ⟨?_⟩⟩
                  · show es.length - (i + 1) < es.length - i
                    omega
                  · kernel_rfl
                  · cbv
                    exact ⟨⟨⟨ei⟩, trivial⟩, ⟨⟨⟨rfl⟩, ⟨rfl, fun _ _ _ _ => rfl⟩, trivial⟩, ⟨hsn⟩, trivial⟩, ⟨by kernel_rfl⟩⟩
      · have h2 : ¬ (i : Int) = 0 := of_decide_eq_false h2
        have hpos : 0 < i := by omega
        have hpp : (0 : Int) < (i : Int) := by omega
        have hc : (decide (i = 0) && !false) = false := by rw [decide_eq_false (by omega)]; rfl
        have bm : bound64 ((i : Int) - 1) := by unfold bound64; omega
        have om : indexObl ((i : Int) - 1) es.length := ⟨by omega, by omega⟩
        have et : ((i : Int) - 1).toNat = i - 1 := by omega
        cbv
        refine ⟨fun h3 => ?_, fun h3 => ?_⟩
        · have h3 : (false != decide (((es.getD i default).key.length : Int) = 0)) = true := h3
          have e1 := may_badK hlt (keyBad1 hc h3)
          cbv
          refine ⟨[], [], ?_⟩
          cbv
          exact ⟨⟨e1⟩, ⟨by kernel_rfl⟩⟩
        · have h3 : (false != decide (((es.getD i default).key.length : Int) = 0)) = false := h3
          cbv
          refine ⟨fun h4 => ?_, fun h4 => ?_⟩
          · have h4 : (160 : Int) < ((es.getD i default).key.length : Int) := of_decide_eq_true h4
            have e1 := may_badK hlt (keyBad2 (leaf := false) (i := i) h4)
            cbv
            refine ⟨[], [], ?_⟩
            cbv
            exact ⟨⟨e1⟩, ⟨by kernel_rfl⟩⟩
          · have h4 : ¬ (160 : Int) < ((es.getD i default).key.length : Int) := of_decide_eq_false h4
            cbv
            refine ⟨_, _, con86 (e := es.getD i default), ⟨rfl⟩, ?_⟩
            cbv
            refine ⟨fun h5 => ?_, fun h5 => ?_⟩
            · have h5 : (if false then leafyB (es.getD i default) else kidB (es.getD i default)) = false := bnot_t h5
              have e1 := may_badK hlt (keyBad3 h5)
              cbv
              refine ⟨[], [], ?_⟩
              cbv
              exact ⟨⟨e1⟩, ⟨by kernel_rfl⟩⟩
            · have h5 : (if false then leafyB (es.getD i default) else kidB (es.getD i default)) = true := bnot_f h5
              have hk := keyBad4 hc h3 h4 h5
              cbv
              refine ⟨fun h6 => ?_, fun h6 => ?_⟩
              · clear h6
                cbv
                refine ⟨⟨?_⟩, ⟨?_⟩, _, _, con79, ⟨?_⟩, ?_⟩
                · exact bm
                · exact om
                · rfl
                cbv
                refine ⟨fun h7 => ?_, fun h7 => ?_⟩
                · have h7 : (0 : Int) ≤ Lib.compareBytes (es.getD (i - 1) default).key (es.getD i default).key := by
                    have h7 := of_decide_eq_true h7
                    rw [← et]
                    exact h7
                  have e1 := may_badO hlt (order1 (leaf := false) hpos h7)
                  cbv
                  refine ⟨⟨by kernel_rfl⟩, ?_⟩
                  cbv
                  refine ⟨[], [], ?_⟩
                  cbv
                  exact ⟨⟨e1⟩, ⟨by kernel_rfl⟩⟩
                · have h7 : ¬ (0 : Int) ≤ Lib.compareBytes (es.getD (i - 1) default).key (es.getD i default).key := by
                    have h7 := of_decide_eq_false h7
                    rw [← et]
                    exact h7
                  cbv
                  refine ⟨⟨hpg⟩, ?_⟩
                  cbv
                  refine ⟨⟨by kernel_rfl⟩, ?_⟩
                  cbv
                  refine ⟨fun h8 => ?_, fun h8 => ?_⟩
                  · have h8 : (seenL (es.take i)).contains (es.getD i default).page = true := h8
                    have e1 := may_badO hlt (order2 h8)
                    cbv
                    refine ⟨[], [], ?_⟩
                    cbv
                    exact ⟨⟨e1⟩, ⟨by kernel_rfl⟩⟩
                  · have h8 : (seenL (es.take i)).contains (es.getD i default).page = false := h8
                    have hn : okTo false es (i + 1) = true := okTo_next hok hk (order3 (fun _ => h7) (fun _ => h8))
                    cbv
                    refine ⟨⟨hpg⟩, ⟨bi⟩, i + 1, [], ⟨hlt, hn⟩, ?_, ⟨?_⟩, ⟨?_⟩⟩
                    · show es.length - (i + 1) < es.length - i
                      omega
                    · kernel_rfl
                    · cbv
                      exact ⟨⟨⟨ei⟩, trivial⟩, ⟨⟨⟨rfl⟩, ⟨rfl, fun _ _ _ _ => rfl⟩, trivial⟩, ⟨hsn⟩, trivial⟩, ⟨by kernel_rfl⟩⟩
              · have h6 : ¬ (0 : Int) < (i : Int) := of_decide_eq_false h6
                exfalso
                exact h6 hpp
    · have h1 : ¬ ((i : Int) < (es.length : Int)) := of_decide_eq_false h1
      have hle : i = es.length := by omega
      subst hle
      have e1 : decide ((0 : Int) < (es.length : Int)) = mayB false es := by
        unfold mayB; rw [hok, Bool.true_and]; exact decide_eq_decide.2 (by omega)
      clear h1
      cbv
      refine ⟨[], [], ?_⟩
      cbv
      exact ⟨⟨e1⟩, ⟨by kernel_rfl⟩⟩
theorem con43 {leaf : Bool} {es : List Ent} (hp : ∀ e ∈ es, EntOk e) (hw : weight es + 20 * es.length < 1000000000000) : Con 43 [nodeSV leaf es] [] (.bool (.s fun _ => mayB leaf es)) [] := by
  cases leaf
  · exact con43f hp hw
  · exact con43t hp hw
end Go.Proofs.Ytmdfjipjkkjpcaa

/- Node laws: what is written. -/
namespace Go.Proofs.Ytmdfjipjkkjpcaa
open Go.SX

def checkI (leaf : Bool) (es : List Ent) : Int := if mayB leaf es then (if 1008 < 2 + sizeL leaf es then 91 else 0) else 90

set_option maxRecDepth 20000 in
set_option maxHeartbeats 4000000 in
theorem con13 {leaf : Bool} {es : List Ent} (hp : ∀ e ∈ es, EntOk e) (hw : weight es + 20 * es.length < 1000000000000) : Con 13 [nodeSV leaf es] [] (.int .u16 (.s fun _ => checkI leaf es)) [] := by
  refine con_of Try.func13 rfl rfl 11 _ rfl rfl rfl rfl ?_
  cbv
  refine ⟨_, _, con43 (leaf := leaf) (es := es) hp hw, ⟨?_⟩, ?_⟩
  · rfl
  cbv
  refine ⟨fun h1 => ?_, fun h1 => ?_⟩
  · have h1 : mayB leaf es = false := bnot_t h1
    have e1 : (90 : Int) = checkI leaf es := by unfold checkI; rw [h1]; rfl
    cbv
    refine ⟨[], [], ?_⟩
    cbv
    exact ⟨⟨e1⟩, ⟨rfl⟩⟩
  · have h1 : mayB leaf es = true := bnot_f h1
    have e0 : checkI leaf es = if 1008 < 2 + sizeL leaf es then 91 else 0 := by unfold checkI; rw [h1]; rfl
    cbv
    refine ⟨_, _, con14 (leaf := leaf) (es := es) hw, ⟨?_⟩, ?_⟩
    · rfl
    cbv
    refine ⟨fun h2 => ?_, fun h2 => ?_⟩
    · have h2 : (1008 : Int) < 2 + sizeL leaf es := of_decide_eq_true h2
      have e1 : (91 : Int) = checkI leaf es := by rw [e0, if_pos h2]
      cbv
      refine ⟨[], [], ?_⟩
      cbv
      exact ⟨⟨e1⟩, ⟨rfl⟩⟩
    · have h2 : ¬ (1008 : Int) < 2 + sizeL leaf es := of_decide_eq_false h2
      have e1 : (0 : Int) = checkI leaf es := by rw [e0, if_neg h2]
      cbv
      refine ⟨[], [], ?_⟩
      cbv
      exact ⟨⟨e1⟩, ⟨rfl⟩⟩

def entB (leaf : Bool) (e : Ent) : List UInt8 :=
  UInt8.ofNat e.key.length :: (e.key ++ if leaf then (if e.page = 0 then UInt8.ofNat e.val.length :: e.val else 255 :: (lowB e.size.toNat 4 ++ lowB e.page.toNat 4)) else lowB e.page.toNat 4)
def entsB (leaf : Bool) : List Ent → List UInt8
  | [] => []
  | e :: es => entB leaf e ++ entsB leaf es
def nodeB (leaf : Bool) (es : List Ent) : List UInt8 := lowB es.length 2 ++ entsB leaf es
def encB (leaf : Bool) (es : List Ent) : List UInt8 := if checkI leaf es = 0 then nodeB leaf es else []

theorem entB_length (leaf : Bool) (e : Ent) : ((entB leaf e).length : Int) = bytesOfI leaf e.key e.val e.page := by
  unfold entB bytesOfI
  cases leaf
  · simp only [List.length_cons, List.length_append, lowB_length, Bool.not_false, if_true, Bool.false_eq_true, if_false]; omega
  · simp only [List.length_cons, List.length_append, lowB_length, Bool.not_true, Bool.false_eq_true, if_true, if_false]
    by_cases h : e.page = 0
    · simp only [h, if_true, ne_eq, not_true_eq_false, if_false, List.length_cons]; omega
    · simp only [h, if_false, ne_eq, not_false_eq_true, if_true, List.length_cons, List.length_append, lowB_length]; omega
theorem entsB_app (leaf : Bool) : ∀ (a b : List Ent), entsB leaf (a ++ b) = entsB leaf a ++ entsB leaf b
  | [], b => rfl
  | e :: a, b => by simp only [List.cons_append, entsB, entsB_app leaf a b, List.append_assoc]
theorem entsB_length (leaf : Bool) : ∀ (es : List Ent), ((entsB leaf es).length : Int) = sizeL leaf es
  | [] => rfl
  | e :: es => by
      have := entB_length leaf e
      have := entsB_length leaf es
      simp only [entsB, sizeL, List.length_append]; omega
theorem nodeB_length (leaf : Bool) (es : List Ent) : ((nodeB leaf es).length : Int) = 2 + sizeL leaf es := by
  have := entsB_length leaf es
  simp only [nodeB, List.length_append, lowB_length]; omega
theorem sizeL_mono (leaf : Bool) {es : List Ent} {i : Nat} : sizeL leaf (es.take i) ≤ sizeL leaf es := by
  have h : es.take i ++ es.drop i = es := List.take_append_drop _ _
  have h2 := sizeL_app leaf (es.take i) (es.drop i)
  rw [h] at h2
  have := (sizeL_le leaf (es.drop i)).1
  omega
theorem checkI_ok {leaf : Bool} {es : List Ent} (h : checkI leaf es = 0) : mayB leaf es = true ∧ 2 + sizeL leaf es ≤ 1008 := by
  unfold checkI at h
  cases hm : mayB leaf es with
  | false => rw [hm] at h; simp at h
  | true =>
    rw [hm] at h
    refine ⟨rfl, ?_⟩
    by_cases h2 : 1008 < 2 + sizeL leaf es
    · simp [h2] at h
    · omega

theorem Con.lit {f : Nat} {a : List SV} {k : IntKind} {n : Int} {objs : Objs} {r : SV} {objs' : Objs} (h : Con f (a ++ [.int k (.s fun _ => n)]) objs r objs') : Con f (a ++ [.int k (.l n)]) objs r objs' := by
  refine h.args fun η G w => ?_
  clear h
  induction a with
  | nil => intro vs hv; cases vs with
    | nil => exact hv
    | cons v vs => simpa [SVRels, SVRel, IE.den] using hv
  | cons s a ih' => intro vs hv; cases vs with
    | nil => exact hv
    | cons v vs => exact ⟨hv.1, ih' vs hv.2⟩

theorem con42z {bs : List UInt8} {z : Int} {m : Nat} (hz : 0 ≤ z) (hm : m ≤ 8) (hl : bs.length < 1000000000000) :
    Con 42 [.own 1000, .int .u32 (.s fun _ => z), .int .i64 (.s fun _ => (m : Int))] [(1000, .barr 5 fun _ => bs)] (.own 2000) [(1000, .dead), (2000, .barr 5 fun _ => bs ++ lowB z.toNat m)] := by
  obtain ⟨n, rfl⟩ := Int.eq_ofNat_of_zero_le hz
  exact con42 hm hl
theorem con42nz {z : Int} {m : Nat} (hz : 0 ≤ z) (hm : m ≤ 8) :
    Con 42 [.nil, .int .u32 (.s fun _ => z), .int .i64 (.s fun _ => (m : Int))] [] (.own 2000) [(2000, .barr 5 fun _ => lowB z.toNat m)] := by
  obtain ⟨n, rfl⟩ := Int.eq_ofNat_of_zero_le hz
  exact con42n hm

theorem sizeL_len (leaf : Bool) : ∀ (es : List Ent), 2 * (es.length : Int) ≤ sizeL leaf es
  | [] => by simp [sizeL]
  | e :: es => by
      have := sizeL_len leaf es
      simp only [sizeL, bytesOfI, List.length_cons]
      split
      · omega
      · split <;> omega
def encTo (leaf : Bool) (es : List Ent) (i : Nat) : List UInt8 := lowB es.length 2 ++ entsB leaf (es.take i)
theorem encTo_next {leaf : Bool} {es : List Ent} {i : Nat} (hi : i < es.length) : encTo leaf es (i + 1) = encTo leaf es i ++ entB leaf (es.getD i default) := by
  unfold encTo
  rw [getD_take es hi, entsB_app, List.append_assoc]
  simp [entsB]
theorem encTo_length {leaf : Bool} {es : List Ent} {i : Nat} (h : 2 + sizeL leaf es ≤ 1008) : (encTo leaf es i).length ≤ 1008 := by
  have h1 := entsB_length leaf (es.take i)
  have h2 := sizeL_mono leaf (es := es) (i := i)
  simp only [encTo, List.length_append, lowB_length]
  omega
theorem enc_page {leaf : Bool} {e : Ent} (b : List UInt8) (h : leaf = false) : (b ++ [UInt8.ofNat (IntKind.u8.wrap (e.key.length : Int)).toNat] ++ e.key) ++ lowB e.page.toNat 4 = b ++ entB leaf e := by
  rw [u8_wrap]; simp [entB, h]
theorem enc_val {leaf : Bool} {e : Ent} (b : List UInt8) (h : leaf = true) (hp : e.page = 0) :
    b ++ [UInt8.ofNat (IntKind.u8.wrap (e.key.length : Int)).toNat] ++ e.key ++ [UInt8.ofNat (IntKind.u8.wrap (e.val.length : Int)).toNat] ++ e.val = b ++ entB leaf e := by
  rw [u8_wrap, u8_wrap]; simp [entB, h, hp]
theorem enc_big {leaf : Bool} {e : Ent} (b : List UInt8) (h : leaf = true) (hp : ¬ e.page = 0) :
    b ++ [UInt8.ofNat (IntKind.u8.wrap (e.key.length : Int)).toNat] ++ e.key ++ [UInt8.ofNat (255 : Int).toNat] ++ lowB e.size.toNat 4 ++ lowB e.page.toNat 4 = b ++ entB leaf e := by
  rw [u8_wrap]; simp [entB, h, hp]

theorem len1 {X : List UInt8} (h : X.length ≤ 4000) : lenOk (X.length + 1) 1 := by unfold lenOk; omega
theorem len2 {X : List UInt8} {x : UInt8} (h : X.length ≤ 4000) : (X ++ [x]).length ≤ 5000 := by rw [List.length_append]; simp only [List.length_cons, List.length_nil]; omega
theorem len3 {X : List UInt8} {n : Nat} (h : X.length ≤ 5000) : (X ++ lowB n 4).length ≤ 6000 := by rw [List.length_append, lowB_length]; omega
theorem len4 {X v : List UInt8} {x : UInt8} (h : X.length ≤ 4000) (hv : v.length ≤ 1008) : lenOk ((X ++ [x]).length + v.length) 1 := by
  unfold lenOk; rw [List.length_append]; simp only [List.length_cons, List.length_nil]; omega

theorem con42l {bs : List UInt8} {z : Int} (hz : 0 ≤ z) (hl : bs.length < 1000000000000) :
    Con 42 [.own 1000, .int .u32 (.s fun _ => z), .int .i64 (.l 4)] [(1000, .barr 5 fun _ => bs)] (.own 2000) [(1000, .dead), (2000, .barr 5 fun _ => bs ++ lowB z.toNat 4)] :=
  Con.lit (a := [.own 1000, .int .u32 (.s fun _ => z)]) (con42z (m := 4) hz (by decide) hl)
theorem con42nl {z : Int} (hz : 0 ≤ z) : Con 42 [.nil, .int .u32 (.s fun _ => z), .int .i64 (.l 2)] [] (.own 2000) [(2000, .barr 5 fun _ => lowB z.toNat 2)] :=
  Con.lit (a := [.nil, .int .u32 (.s fun _ => z)]) (con42nz (m := 2) hz (by decide))

set_option maxRecDepth 20000 in
set_option maxHeartbeats 4000000 in
theorem con12 {leaf : Bool} {es : List Ent} (hp : ∀ e ∈ es, EntOk e) (hw : weight es + 20 * es.length < 1000000000000) :
    Con 12 [nodeSV leaf es] [] (.tup [.dat (.bytes fun _ => encB leaf es), .int .u16 (.s fun _ => checkI leaf es)]) [] := by
  refine con_of Try.func12 rfl rfl 68 _ rfl rfl rfl rfl ?_
  cbv
  refine ⟨_, _, con13 (leaf := leaf) (es := es) hp hw, ⟨?_⟩, ?_⟩
  · rfl
  cbv
  refine ⟨fun h1 => ?_, fun h1 => ?_⟩
  · have h1 : ¬ checkI leaf es = 0 := of_decide_eq_false (bnot_t h1)
    have e1 : encB leaf es = [] := by unfold encB; rw [if_neg h1]
    clear h1
    cbv
    refine ⟨[], [], ?_⟩
    cbv
    exact ⟨⟨⟨e1⟩, ⟨rfl⟩, trivial⟩, ⟨by kernel_rfl⟩⟩
  · have h1 : checkI leaf es = 0 := of_decide_eq_true (bnot_f h1)
    obtain ⟨hm, hs⟩ := checkI_ok h1
    have hl := sizeL_len leaf es
    have w1 : (IntKind.u32.wrap (es.length : Int)).toNat = es.length := by rw [IntKind.wrap_u32]; omega
    have w2 : 0 ≤ IntKind.u32.wrap (es.length : Int) := by rw [IntKind.wrap_u32]; omega
    have e0 : lowB (IntKind.u32.wrap (es.length : Int)).toNat 2 = encTo leaf es 0 := by rw [w1]; simp [encTo, entsB]
    cbv
    refine ⟨_, _, con42nl w2, ⟨?_⟩, ?_⟩
    · rfl
    cbv
    refine ⟨Nat, [500], fun i => [(5, .own 500), (21, .int .i64 (.s fun _ => (i : Int)))], fun i => [(1, .cells 24 [.bool (.s fun _ => leaf), .dat (entsDV es)]), (500, .barr 5 fun _ => encTo leaf es i)],
      fun i => i ≤ es.length, fun i => es.length - i, 0, [(500, some 4700)], Nat.zero_le _, ⟨?_⟩, fun i hi => ?_⟩
    · cbv
      exact ⟨⟨⟨rfl⟩, trivial⟩, ⟨⟨⟨rfl⟩, ⟨rfl, fun _ _ _ _ => rfl⟩, trivial⟩, ⟨e0⟩, trivial⟩, ⟨by kernel_rfl⟩⟩
    · have hi : i ≤ es.length := hi
      cbv
      refine ⟨fun h2 => ?_, fun h2 => ?_⟩
      · have h2 : (i : Int) < (es.length : Int) := of_decide_eq_true h2
        have hlt : i < es.length := by omega
        have o1 : indexObl (i : Int) es.length := ⟨by omega, h2⟩
        have hE := entOk_at hp hlt
        have hL := encTo_length (i := i) hs
        have hN := encTo_next (leaf := leaf) hlt
        have hL' := encTo_length (i := i + 1) hs
        have hB := entB_length leaf (es.getD i default)
        rw [hN, List.length_append] at hL'
        have b0 := u8_range ((es.getD i default).key.length : Int)
        have b1 : lenOk ((encTo leaf es i).length + 1) 1 := by unfold lenOk; omega
        have b2 : lenOk ((encTo leaf es i ++ [UInt8.ofNat (IntKind.u8.wrap ((es.getD i default).key.length : Int)).toNat]).length + (es.getD i default).key.length) 1 := by
          have : (es.getD i default).key.length < (entB leaf (es.getD i default)).length := by unfold entB; simp only [List.length_cons, List.length_append]; omega
          unfold lenOk; simp only [List.length_append, List.length_cons, List.length_nil]; omega
        have l1 : (encTo leaf es i ++ [UInt8.ofNat (IntKind.u8.wrap ((es.getD i default).key.length : Int)).toNat] ++ (es.getD i default).key).length ≤ 4000 := by
          have : (es.getD i default).key.length < (entB leaf (es.getD i default)).length := by unfold entB; simp only [List.length_cons, List.length_append]; omega
          simp only [List.length_append, List.length_cons, List.length_nil]; omega
        have bi : bound64 ((i : Int) + 1) := by unfold bound64; omega
        have ei : (i : Int) + 1 = ((i + 1 : Nat) : Int) := by omega
        clear h2
        cbv
        refine ⟨⟨o1⟩, ?_⟩
        cbv
        refine ⟨⟨⟨b0, trivial⟩, b1⟩, ?_⟩
        cbv
        refine ⟨⟨trivial, b2⟩, ⟨by kernel_rfl⟩, ?_⟩
        cbv
        refine ⟨fun h3 => ?_, fun h3 => ?_⟩
        · have h3 : leaf = false := bnot_t h3
          have e5 := (enc_page (encTo leaf es i) (e := es.getD i default) h3).trans hN.symm
          cbv
          refine ⟨_, _, con42l hE.1.1 ?_, ⟨?_⟩, ?_⟩
          · exact Nat.lt_of_le_of_lt l1 (by decide)
          · rfl
          cbv
          refine ⟨⟨bi⟩, i + 1, [(500, some 8100)], hlt, ?_, ⟨?_⟩, ⟨?_⟩⟩
          · show es.length - (i + 1) < es.length - i
            omega
          · kernel_rfl
          · cbv
            exact ⟨⟨⟨ei⟩, trivial⟩, ⟨⟨⟨rfl⟩, ⟨rfl, fun _ _ _ _ => rfl⟩, trivial⟩, ⟨e5⟩, trivial⟩, ⟨by kernel_rfl⟩⟩
        · have h3 : leaf = true := bnot_f h3
          cbv
          refine ⟨fun h4 => ?_, fun h4 => ?_⟩
          · have h4 : (es.getD i default).page = 0 := of_decide_eq_true h4
            have e5 := (enc_val (encTo leaf es i) (e := es.getD i default) h3 h4).trans hN.symm
            have b3 := u8_range ((es.getD i default).val.length : Int)
            have lE : 2 + (es.getD i default).key.length + (es.getD i default).val.length = (entB leaf (es.getD i default)).length := by
              unfold entB; simp only [h3, h4, if_true, List.length_cons, List.length_append]; omega
            have b4 : lenOk ((encTo leaf es i ++ [UInt8.ofNat (IntKind.u8.wrap ((es.getD i default).key.length : Int)).toNat] ++ (es.getD i default).key).length + 1) 1 := len1 l1
            have lV : (es.getD i default).val.length ≤ 1008 := by omega
            have b5 : lenOk ((encTo leaf es i ++ [UInt8.ofNat (IntKind.u8.wrap ((es.getD i default).key.length : Int)).toNat] ++ (es.getD i default).key ++ [UInt8.ofNat (IntKind.u8.wrap ((es.getD i default).val.length : Int)).toNat]).length + (es.getD i default).val.length) 1 := len4 l1 lV
            cbv
            refine ⟨⟨⟨b3, trivial⟩, b4⟩, ⟨trivial, b5⟩, ⟨by kernel_rfl⟩, ?_⟩
            cbv
            refine ⟨⟨bi⟩, i + 1, [(500, some 65)], hlt, ?_, ⟨?_⟩, ⟨?_⟩⟩
            · show es.length - (i + 1) < es.length - i
              omega
            · kernel_rfl
            · cbv
              exact ⟨⟨⟨ei⟩, trivial⟩, ⟨⟨⟨rfl⟩, ⟨rfl, fun _ _ _ _ => rfl⟩, trivial⟩, ⟨e5⟩, trivial⟩, ⟨by kernel_rfl⟩⟩
          · have h4 : ¬ (es.getD i default).page = 0 := of_decide_eq_false h4
            have e5 := (enc_big (encTo leaf es i) (e := es.getD i default) h3 h4).trans hN.symm
            have b3 : (0 : Int) ≤ 255 ∧ (255 : Int) < 256 := by decide
            have b4 : lenOk ((encTo leaf es i ++ [UInt8.ofNat (IntKind.u8.wrap ((es.getD i default).key.length : Int)).toNat] ++ (es.getD i default).key).length + 1) 1 := len1 l1
            have l2 : (encTo leaf es i ++ [UInt8.ofNat (IntKind.u8.wrap ((es.getD i default).key.length : Int)).toNat] ++ (es.getD i default).key ++ [UInt8.ofNat (255 : Int).toNat]).length ≤ 5000 := len2 l1
            have l3 : (encTo leaf es i ++ [UInt8.ofNat (IntKind.u8.wrap ((es.getD i default).key.length : Int)).toNat] ++ (es.getD i default).key ++ [UInt8.ofNat (255 : Int).toNat] ++ lowB (es.getD i default).size.toNat 4).length ≤ 6000 := len3 l2
            cbv
            refine ⟨⟨⟨b3, trivial⟩, b4⟩, _, _, con42l hE.2.1 ?_, ⟨?_⟩, ?_⟩
            · exact Nat.lt_of_le_of_lt l2 (by decide)
            · rfl
            cbv
            refine ⟨_, _, con42l hE.1.1 ?_, ⟨?_⟩, ?_⟩
            · exact Nat.lt_of_le_of_lt l3 (by decide)
            · rfl
            cbv
            refine ⟨⟨by kernel_rfl⟩, ?_⟩
            cbv
            refine ⟨⟨bi⟩, i + 1, [(500, some 7300)], hlt, ?_, ⟨?_⟩, ⟨?_⟩⟩
            · show es.length - (i + 1) < es.length - i
              omega
            · kernel_rfl
            · cbv
              exact ⟨⟨⟨ei⟩, trivial⟩, ⟨⟨⟨rfl⟩, ⟨rfl, fun _ _ _ _ => rfl⟩, trivial⟩, ⟨e5⟩, trivial⟩, ⟨by kernel_rfl⟩⟩
      · have h2 : ¬ ((i : Int) < (es.length : Int)) := of_decide_eq_false h2
        have hle : i = es.length := by omega
        subst hle
        have e1 : encTo leaf es es.length = encB leaf es := by unfold encB encTo nodeB; rw [if_pos h1, List.take_length]
        clear h2
        cbv
        refine ⟨[], [500], ?_⟩
        cbv
        exact ⟨⟨⟨e1⟩, ⟨h1.symm⟩, trivial⟩, ⟨by kernel_rfl⟩⟩
end Go.Proofs.Ytmdfjipjkkjpcaa

