import Derived.Test.YtpaggjifaelcnaaGreatPmF
import Derived.Test.YtpaggjifaelcnaaGreatProg
set_option linter.unusedVariables false
set_option linter.unusedSimpArgs false
set_option maxRecDepth 20000
namespace Go.Proofs.YtpaggjifaelcnaaGreat
open Go Go.Pm Go.Pt
noncomputable def k_aHead : Kd aHead := kSt (kPair (kSlice (kInt .i64)) kNil) (fun x => (x.Slots, ()))
theorem fl_aHead_0 : Fld k_aHead 0 (kSlice (kInt .i64)) (fun x => x.Slots) (fun y x => { x with Slots := y }) := Fld.st (Fld.fst _ _) _ _ (fun _ => rfl) (fun _ _ => rfl)
noncomputable def k_aBits : Kd aBits := kSt (kPair (kInt .i64) (kPair (kInt .u64) (kPair (kInt .u64) kNil))) (fun x => (x.W, x.Hi, x.Lo, ()))
theorem fl_aBits_0 : Fld k_aBits 0 (kInt .i64) (fun x => x.W) (fun y x => { x with W := y }) := Fld.st (Fld.fst _ _) _ _ (fun _ => rfl) (fun _ _ => rfl)
theorem fl_aBits_1 : Fld k_aBits 1 (kInt .u64) (fun x => x.Hi) (fun y x => { x with Hi := y }) := Fld.st (Fld.trans (Fld.snd _ _) (Fld.fst _ _)) _ _ (fun _ => rfl) (fun _ _ => rfl)
theorem fl_aBits_2 : Fld k_aBits 2 (kInt .u64) (fun x => x.Lo) (fun y x => { x with Lo := y }) := Fld.st (Fld.trans (Fld.snd _ _) (Fld.trans (Fld.snd _ _) (Fld.fst _ _))) _ _ (fun _ => rfl) (fun _ _ => rfl)
noncomputable def k_aIns : Kd aIns := kSt (kPair (kInt .u8) (kPair (kInt .i64) (kPair (kInt .i64) (kPair (kInt .i64) (kPair (kInt .i64) (kPair (kInt .i64) (kPair (kSlice (kInt .i64)) (kPair k_aBits (kPair (kInt .u8) kNil))))))))) (fun x => (x.Op, x.To, x.A, x.B, x.N, x.M, x.L, x.Lit, x.By, ()))
theorem fl_aIns_0 : Fld k_aIns 0 (kInt .u8) (fun x => x.Op) (fun y x => { x with Op := y }) := Fld.st (Fld.fst _ _) _ _ (fun _ => rfl) (fun _ _ => rfl)
theorem fl_aIns_1 : Fld k_aIns 1 (kInt .i64) (fun x => x.To) (fun y x => { x with To := y }) := Fld.st (Fld.trans (Fld.snd _ _) (Fld.fst _ _)) _ _ (fun _ => rfl) (fun _ _ => rfl)
theorem fl_aIns_2 : Fld k_aIns 2 (kInt .i64) (fun x => x.A) (fun y x => { x with A := y }) := Fld.st (Fld.trans (Fld.snd _ _) (Fld.trans (Fld.snd _ _) (Fld.fst _ _))) _ _ (fun _ => rfl) (fun _ _ => rfl)
theorem fl_aIns_3 : Fld k_aIns 3 (kInt .i64) (fun x => x.B) (fun y x => { x with B := y }) := Fld.st (Fld.trans (Fld.snd _ _) (Fld.trans (Fld.snd _ _) (Fld.trans (Fld.snd _ _) (Fld.fst _ _)))) _ _ (fun _ => rfl) (fun _ _ => rfl)
theorem fl_aIns_4 : Fld k_aIns 4 (kInt .i64) (fun x => x.N) (fun y x => { x with N := y }) := Fld.st (Fld.trans (Fld.snd _ _) (Fld.trans (Fld.snd _ _) (Fld.trans (Fld.snd _ _) (Fld.trans (Fld.snd _ _) (Fld.fst _ _))))) _ _ (fun _ => rfl) (fun _ _ => rfl)
theorem fl_aIns_5 : Fld k_aIns 5 (kInt .i64) (fun x => x.M) (fun y x => { x with M := y }) := Fld.st (Fld.trans (Fld.snd _ _) (Fld.trans (Fld.snd _ _) (Fld.trans (Fld.snd _ _) (Fld.trans (Fld.snd _ _) (Fld.trans (Fld.snd _ _) (Fld.fst _ _)))))) _ _ (fun _ => rfl) (fun _ _ => rfl)
theorem fl_aIns_6 : Fld k_aIns 6 (kSlice (kInt .i64)) (fun x => x.L) (fun y x => { x with L := y }) := Fld.st (Fld.trans (Fld.snd _ _) (Fld.trans (Fld.snd _ _) (Fld.trans (Fld.snd _ _) (Fld.trans (Fld.snd _ _) (Fld.trans (Fld.snd _ _) (Fld.trans (Fld.snd _ _) (Fld.fst _ _))))))) _ _ (fun _ => rfl) (fun _ _ => rfl)
theorem fl_aIns_7 : Fld k_aIns 7 k_aBits (fun x => x.Lit) (fun y x => { x with Lit := y }) := Fld.st (Fld.trans (Fld.snd _ _) (Fld.trans (Fld.snd _ _) (Fld.trans (Fld.snd _ _) (Fld.trans (Fld.snd _ _) (Fld.trans (Fld.snd _ _) (Fld.trans (Fld.snd _ _) (Fld.trans (Fld.snd _ _) (Fld.fst _ _)))))))) _ _ (fun _ => rfl) (fun _ _ => rfl)
theorem fl_aIns_8 : Fld k_aIns 10 (kInt .u8) (fun x => x.By) (fun y x => { x with By := y }) := Fld.st (Fld.trans (Fld.snd _ _) (Fld.trans (Fld.snd _ _) (Fld.trans (Fld.snd _ _) (Fld.trans (Fld.snd _ _) (Fld.trans (Fld.snd _ _) (Fld.trans (Fld.snd _ _) (Fld.trans (Fld.snd _ _) (Fld.trans (Fld.snd _ _) (Fld.fst _ _))))))))) _ _ (fun _ => rfl) (fun _ _ => rfl)
noncomputable def k_aJump : Kd aJump := kSt (kPair k_aBits (kPair k_aBits (kPair (kInt .i64) kNil))) (fun x => (x.Value, x.Mask, x.To, ()))
theorem fl_aJump_0 : Fld k_aJump 0 k_aBits (fun x => x.Value) (fun y x => { x with Value := y }) := Fld.st (Fld.fst _ _) _ _ (fun _ => rfl) (fun _ _ => rfl)
theorem fl_aJump_1 : Fld k_aJump 3 k_aBits (fun x => x.Mask) (fun y x => { x with Mask := y }) := Fld.st (Fld.trans (Fld.snd _ _) (Fld.fst _ _)) _ _ (fun _ => rfl) (fun _ _ => rfl)
theorem fl_aJump_2 : Fld k_aJump 6 (kInt .i64) (fun x => x.To) (fun y x => { x with To := y }) := Fld.st (Fld.trans (Fld.snd _ _) (Fld.trans (Fld.snd _ _) (Fld.fst _ _))) _ _ (fun _ => rfl) (fun _ _ => rfl)
noncomputable def k_aNode : Kd aNode := kSt (kPair (kSlice (kInt .i64)) (kPair (kSlice k_aIns) (kPair (kInt .i64) (kPair (kSlice k_aJump) (kPair (kInt .i64) kNil))))) (fun x => (x.Heads, x.Code, x.Slot, x.Cases, x.To, ()))
theorem fl_aNode_0 : Fld k_aNode 0 (kSlice (kInt .i64)) (fun x => x.Heads) (fun y x => { x with Heads := y }) := Fld.st (Fld.fst _ _) _ _ (fun _ => rfl) (fun _ _ => rfl)
theorem fl_aNode_1 : Fld k_aNode 1 (kSlice k_aIns) (fun x => x.Code) (fun y x => { x with Code := y }) := Fld.st (Fld.trans (Fld.snd _ _) (Fld.fst _ _)) _ _ (fun _ => rfl) (fun _ _ => rfl)
theorem fl_aNode_2 : Fld k_aNode 2 (kInt .i64) (fun x => x.Slot) (fun y x => { x with Slot := y }) := Fld.st (Fld.trans (Fld.snd _ _) (Fld.trans (Fld.snd _ _) (Fld.fst _ _))) _ _ (fun _ => rfl) (fun _ _ => rfl)
theorem fl_aNode_3 : Fld k_aNode 3 (kSlice k_aJump) (fun x => x.Cases) (fun y x => { x with Cases := y }) := Fld.st (Fld.trans (Fld.snd _ _) (Fld.trans (Fld.snd _ _) (Fld.trans (Fld.snd _ _) (Fld.fst _ _)))) _ _ (fun _ => rfl) (fun _ _ => rfl)
theorem fl_aNode_4 : Fld k_aNode 4 (kInt .i64) (fun x => x.To) (fun y x => { x with To := y }) := Fld.st (Fld.trans (Fld.snd _ _) (Fld.trans (Fld.snd _ _) (Fld.trans (Fld.snd _ _) (Fld.trans (Fld.snd _ _) (Fld.fst _ _))))) _ _ (fun _ => rfl) (fun _ _ => rfl)
noncomputable def k_aAct : Kd aAct := kSt (kPair kStr (kPair (kSlice (kInt .i64)) (kPair (kSlice k_aIns) kNil))) (fun x => (x.Name, x.Params, x.Code, ()))
theorem fl_aAct_0 : Fld k_aAct 0 kStr (fun x => x.Name) (fun y x => { x with Name := y }) := Fld.st (Fld.fst _ _) _ _ (fun _ => rfl) (fun _ _ => rfl)
theorem fl_aAct_1 : Fld k_aAct 1 (kSlice (kInt .i64)) (fun x => x.Params) (fun y x => { x with Params := y }) := Fld.st (Fld.trans (Fld.snd _ _) (Fld.fst _ _)) _ _ (fun _ => rfl) (fun _ _ => rfl)
theorem fl_aAct_2 : Fld k_aAct 2 (kSlice k_aIns) (fun x => x.Code) (fun y x => { x with Code := y }) := Fld.st (Fld.trans (Fld.snd _ _) (Fld.trans (Fld.snd _ _) (Fld.fst _ _))) _ _ (fun _ => rfl) (fun _ _ => rfl)
noncomputable def k_aTable : Kd aTable := kSt (kPair kStr (kPair (kSlice (kInt .i64)) (kPair (kSlice (kInt .u8)) (kPair (kSlice (kInt .i64)) (kPair (kInt .i64) (kPair (kSlice k_aBits) (kPair (kInt .i64) (kPair (kSlice k_aIns) kNil)))))))) (fun x => (x.Name, x.Keys, x.Kinds, x.Actions, x.Default, x.Args, x.Size, x.Before, ()))
theorem fl_aTable_0 : Fld k_aTable 0 kStr (fun x => x.Name) (fun y x => { x with Name := y }) := Fld.st (Fld.fst _ _) _ _ (fun _ => rfl) (fun _ _ => rfl)
theorem fl_aTable_1 : Fld k_aTable 1 (kSlice (kInt .i64)) (fun x => x.Keys) (fun y x => { x with Keys := y }) := Fld.st (Fld.trans (Fld.snd _ _) (Fld.fst _ _)) _ _ (fun _ => rfl) (fun _ _ => rfl)
theorem fl_aTable_2 : Fld k_aTable 2 (kSlice (kInt .u8)) (fun x => x.Kinds) (fun y x => { x with Kinds := y }) := Fld.st (Fld.trans (Fld.snd _ _) (Fld.trans (Fld.snd _ _) (Fld.fst _ _))) _ _ (fun _ => rfl) (fun _ _ => rfl)
theorem fl_aTable_3 : Fld k_aTable 3 (kSlice (kInt .i64)) (fun x => x.Actions) (fun y x => { x with Actions := y }) := Fld.st (Fld.trans (Fld.snd _ _) (Fld.trans (Fld.snd _ _) (Fld.trans (Fld.snd _ _) (Fld.fst _ _)))) _ _ (fun _ => rfl) (fun _ _ => rfl)
theorem fl_aTable_4 : Fld k_aTable 4 (kInt .i64) (fun x => x.Default) (fun y x => { x with Default := y }) := Fld.st (Fld.trans (Fld.snd _ _) (Fld.trans (Fld.snd _ _) (Fld.trans (Fld.snd _ _) (Fld.trans (Fld.snd _ _) (Fld.fst _ _))))) _ _ (fun _ => rfl) (fun _ _ => rfl)
theorem fl_aTable_5 : Fld k_aTable 5 (kSlice k_aBits) (fun x => x.Args) (fun y x => { x with Args := y }) := Fld.st (Fld.trans (Fld.snd _ _) (Fld.trans (Fld.snd _ _) (Fld.trans (Fld.snd _ _) (Fld.trans (Fld.snd _ _) (Fld.trans (Fld.snd _ _) (Fld.fst _ _)))))) _ _ (fun _ => rfl) (fun _ _ => rfl)
theorem fl_aTable_6 : Fld k_aTable 6 (kInt .i64) (fun x => x.Size) (fun y x => { x with Size := y }) := Fld.st (Fld.trans (Fld.snd _ _) (Fld.trans (Fld.snd _ _) (Fld.trans (Fld.snd _ _) (Fld.trans (Fld.snd _ _) (Fld.trans (Fld.snd _ _) (Fld.trans (Fld.snd _ _) (Fld.fst _ _))))))) _ _ (fun _ => rfl) (fun _ _ => rfl)
theorem fl_aTable_7 : Fld k_aTable 7 (kSlice k_aIns) (fun x => x.Before) (fun y x => { x with Before := y }) := Fld.st (Fld.trans (Fld.snd _ _) (Fld.trans (Fld.snd _ _) (Fld.trans (Fld.snd _ _) (Fld.trans (Fld.snd _ _) (Fld.trans (Fld.snd _ _) (Fld.trans (Fld.snd _ _) (Fld.trans (Fld.snd _ _) (Fld.fst _ _)))))))) _ _ (fun _ => rfl) (fun _ _ => rfl)
noncomputable def k_aArr : Kd aArr := kSt (kPair kStr (kPair (kInt .u8) (kPair (kInt .i64) kNil))) (fun x => (x.Name, x.Kind, x.W, ()))
theorem fl_aArr_0 : Fld k_aArr 0 kStr (fun x => x.Name) (fun y x => { x with Name := y }) := Fld.st (Fld.fst _ _) _ _ (fun _ => rfl) (fun _ _ => rfl)
theorem fl_aArr_1 : Fld k_aArr 1 (kInt .u8) (fun x => x.Kind) (fun y x => { x with Kind := y }) := Fld.st (Fld.trans (Fld.snd _ _) (Fld.fst _ _)) _ _ (fun _ => rfl) (fun _ _ => rfl)
theorem fl_aArr_2 : Fld k_aArr 2 (kInt .i64) (fun x => x.W) (fun y x => { x with W := y }) := Fld.st (Fld.trans (Fld.snd _ _) (Fld.trans (Fld.snd _ _) (Fld.fst _ _))) _ _ (fun _ => rfl) (fun _ _ => rfl)
noncomputable def k_aCode : Kd aCode := kSt (kPair (kSlice (kInt .i64)) (kPair (kSlice k_aHead) (kPair (kSlice (kInt .i64)) (kPair (kSlice k_aNode) (kPair (kSlice k_aIns) (kPair (kSlice k_aAct) (kPair (kSlice k_aTable) (kPair (kSlice (kInt .i64)) (kPair (kSlice k_aArr) kNil))))))))) (fun x => (x.Slots, x.Heads, x.Meta, x.States, x.Main, x.Acts, x.Tables, x.Emits, x.Arrays, ()))
theorem fl_aCode_0 : Fld k_aCode 0 (kSlice (kInt .i64)) (fun x => x.Slots) (fun y x => { x with Slots := y }) := Fld.st (Fld.fst _ _) _ _ (fun _ => rfl) (fun _ _ => rfl)
theorem fl_aCode_1 : Fld k_aCode 1 (kSlice k_aHead) (fun x => x.Heads) (fun y x => { x with Heads := y }) := Fld.st (Fld.trans (Fld.snd _ _) (Fld.fst _ _)) _ _ (fun _ => rfl) (fun _ _ => rfl)
theorem fl_aCode_2 : Fld k_aCode 2 (kSlice (kInt .i64)) (fun x => x.Meta) (fun y x => { x with Meta := y }) := Fld.st (Fld.trans (Fld.snd _ _) (Fld.trans (Fld.snd _ _) (Fld.fst _ _))) _ _ (fun _ => rfl) (fun _ _ => rfl)
theorem fl_aCode_3 : Fld k_aCode 3 (kSlice k_aNode) (fun x => x.States) (fun y x => { x with States := y }) := Fld.st (Fld.trans (Fld.snd _ _) (Fld.trans (Fld.snd _ _) (Fld.trans (Fld.snd _ _) (Fld.fst _ _)))) _ _ (fun _ => rfl) (fun _ _ => rfl)
theorem fl_aCode_4 : Fld k_aCode 4 (kSlice k_aIns) (fun x => x.Main) (fun y x => { x with Main := y }) := Fld.st (Fld.trans (Fld.snd _ _) (Fld.trans (Fld.snd _ _) (Fld.trans (Fld.snd _ _) (Fld.trans (Fld.snd _ _) (Fld.fst _ _))))) _ _ (fun _ => rfl) (fun _ _ => rfl)
theorem fl_aCode_5 : Fld k_aCode 5 (kSlice k_aAct) (fun x => x.Acts) (fun y x => { x with Acts := y }) := Fld.st (Fld.trans (Fld.snd _ _) (Fld.trans (Fld.snd _ _) (Fld.trans (Fld.snd _ _) (Fld.trans (Fld.snd _ _) (Fld.trans (Fld.snd _ _) (Fld.fst _ _)))))) _ _ (fun _ => rfl) (fun _ _ => rfl)
theorem fl_aCode_6 : Fld k_aCode 6 (kSlice k_aTable) (fun x => x.Tables) (fun y x => { x with Tables := y }) := Fld.st (Fld.trans (Fld.snd _ _) (Fld.trans (Fld.snd _ _) (Fld.trans (Fld.snd _ _) (Fld.trans (Fld.snd _ _) (Fld.trans (Fld.snd _ _) (Fld.trans (Fld.snd _ _) (Fld.fst _ _))))))) _ _ (fun _ => rfl) (fun _ _ => rfl)
theorem fl_aCode_7 : Fld k_aCode 7 (kSlice (kInt .i64)) (fun x => x.Emits) (fun y x => { x with Emits := y }) := Fld.st (Fld.trans (Fld.snd _ _) (Fld.trans (Fld.snd _ _) (Fld.trans (Fld.snd _ _) (Fld.trans (Fld.snd _ _) (Fld.trans (Fld.snd _ _) (Fld.trans (Fld.snd _ _) (Fld.trans (Fld.snd _ _) (Fld.fst _ _)))))))) _ _ (fun _ => rfl) (fun _ _ => rfl)
theorem fl_aCode_8 : Fld k_aCode 8 (kSlice k_aArr) (fun x => x.Arrays) (fun y x => { x with Arrays := y }) := Fld.st (Fld.trans (Fld.snd _ _) (Fld.trans (Fld.snd _ _) (Fld.trans (Fld.snd _ _) (Fld.trans (Fld.snd _ _) (Fld.trans (Fld.snd _ _) (Fld.trans (Fld.snd _ _) (Fld.trans (Fld.snd _ _) (Fld.trans (Fld.snd _ _) (Fld.fst _ _))))))))) _ _ (fun _ => rfl) (fun _ _ => rfl)
noncomputable def k_code_look : Kd code_look := kSt (kPair k_aCode kNil) (fun x => (x.c, ()))
theorem fl_code_look_0 : Fld k_code_look 0 k_aCode (fun x => x.c) (fun y x => { x with c := y }) := Fld.st (Fld.fst _ _) _ _ (fun _ => rfl) (fun _ _ => rfl)
noncomputable def k_code_place : Kd code_place := kSt (kPair (kInt .i64) (kPair (kInt .i64) (kPair kBool kNil))) (fun x => (x.at_, x.long, x.main, ()))
theorem fl_code_place_0 : Fld k_code_place 0 (kInt .i64) (fun x => x.at_) (fun y x => { x with at_ := y }) := Fld.st (Fld.fst _ _) _ _ (fun _ => rfl) (fun _ _ => rfl)
theorem fl_code_place_1 : Fld k_code_place 1 (kInt .i64) (fun x => x.long) (fun y x => { x with long := y }) := Fld.st (Fld.trans (Fld.snd _ _) (Fld.fst _ _)) _ _ (fun _ => rfl) (fun _ _ => rfl)
theorem fl_code_place_2 : Fld k_code_place 2 kBool (fun x => x.main) (fun y x => { x with main := y }) := Fld.st (Fld.trans (Fld.snd _ _) (Fld.trans (Fld.snd _ _) (Fld.fst _ _))) _ _ (fun _ => rfl) (fun _ _ => rfl)
noncomputable def k_code_row : Kd code_row := kSt (kPair (kInt .u8) (kPair kStr (kPair kBool (kPair (kClo Tryz.prog (fun x : code_look × aIns × code_place => [⟨(k_code_look).v, x.1⟩, ⟨(k_aIns).v, x.2.1⟩, ⟨(k_code_place).v, x.2.2⟩]) vBool) kNil)))) (fun x => (x.op, x.has, x.plain, x.fine, ()))
theorem fl_code_row_0 : Fld k_code_row 0 (kInt .u8) (fun x => x.op) (fun y x => { x with op := y }) := Fld.st (Fld.fst _ _) _ _ (fun _ => rfl) (fun _ _ => rfl)
theorem fl_code_row_1 : Fld k_code_row 1 kStr (fun x => x.has) (fun y x => { x with has := y }) := Fld.st (Fld.trans (Fld.snd _ _) (Fld.fst _ _)) _ _ (fun _ => rfl) (fun _ _ => rfl)
theorem fl_code_row_2 : Fld k_code_row 2 kBool (fun x => x.plain) (fun y x => { x with plain := y }) := Fld.st (Fld.trans (Fld.snd _ _) (Fld.trans (Fld.snd _ _) (Fld.fst _ _))) _ _ (fun _ => rfl) (fun _ _ => rfl)
theorem fl_code_row_3 : Fld k_code_row 3 (kClo Tryz.prog (fun x : code_look × aIns × code_place => [⟨(k_code_look).v, x.1⟩, ⟨(k_aIns).v, x.2.1⟩, ⟨(k_code_place).v, x.2.2⟩]) vBool) (fun x => x.fine) (fun y x => { x with fine := y }) := Fld.st (Fld.trans (Fld.snd _ _) (Fld.trans (Fld.snd _ _) (Fld.trans (Fld.snd _ _) (Fld.fst _ _)))) _ _ (fun _ => rfl) (fun _ _ => rfl)
noncomputable def k_sums_row : Kd sums_row := kSt (kPair kStr (kPair (kInt .i64) (kPair (kClo Tryz.prog (fun x : (List Int) => [⟨vSlice (kInt .u8), x⟩]) (vInt .u32)) kNil))) (fun x => (x.name, x.width, x.sum, ()))
theorem fl_sums_row_0 : Fld k_sums_row 0 kStr (fun x => x.name) (fun y x => { x with name := y }) := Fld.st (Fld.fst _ _) _ _ (fun _ => rfl) (fun _ _ => rfl)
theorem fl_sums_row_1 : Fld k_sums_row 1 (kInt .i64) (fun x => x.width) (fun y x => { x with width := y }) := Fld.st (Fld.trans (Fld.snd _ _) (Fld.fst _ _)) _ _ (fun _ => rfl) (fun _ _ => rfl)
theorem fl_sums_row_2 : Fld k_sums_row 2 (kClo Tryz.prog (fun x : (List Int) => [⟨vSlice (kInt .u8), x⟩]) (vInt .u32)) (fun x => x.sum) (fun y x => { x with sum := y }) := Fld.st (Fld.trans (Fld.snd _ _) (Fld.trans (Fld.snd _ _) (Fld.fst _ _))) _ _ (fun _ => rfl) (fun _ _ => rfl)
noncomputable def k_An_is_sign : Kd An_is_sign := kSt (kPair kBool (kPair (kInt .i32) kNil)) (fun x => (x.is, x.sign, ()))
theorem fl_An_is_sign_0 : Fld k_An_is_sign 0 kBool (fun x => x.is) (fun y x => { x with is := y }) := Fld.st (Fld.fst _ _) _ _ (fun _ => rfl) (fun _ _ => rfl)
theorem fl_An_is_sign_1 : Fld k_An_is_sign 1 (kInt .i32) (fun x => x.sign) (fun y x => { x with sign := y }) := Fld.st (Fld.trans (Fld.snd _ _) (Fld.fst _ _)) _ _ (fun _ => rfl) (fun _ _ => rfl)
structure aCodeV0_5_6 where
  Slots : Value
  Heads : List aHead
  Meta : List Int
  States : List aNode
  Main : List aIns
  Acts : Value
  Tables : Value
  Emits : List Int
  Arrays : List aArr

noncomputable def k_aCodeV0_5_6 : Kd aCodeV0_5_6 := kSt (kPair kVal (kPair (kSlice k_aHead) (kPair (kSlice (kInt .i64)) (kPair (kSlice k_aNode) (kPair (kSlice k_aIns) (kPair kVal (kPair kVal (kPair (kSlice (kInt .i64)) (kPair (kSlice k_aArr) kNil))))))))) (fun x => (x.Slots, x.Heads, x.Meta, x.States, x.Main, x.Acts, x.Tables, x.Emits, x.Arrays, ()))
theorem fl_aCodeV0_5_6_0 : Fld k_aCodeV0_5_6 0 kVal (fun x => x.Slots) (fun y x => { x with Slots := y }) := Fld.st (Fld.fst _ _) _ _ (fun _ => rfl) (fun _ _ => rfl)
theorem fl_aCodeV0_5_6_1 : Fld k_aCodeV0_5_6 1 (kSlice k_aHead) (fun x => x.Heads) (fun y x => { x with Heads := y }) := Fld.st (Fld.trans (Fld.snd _ _) (Fld.fst _ _)) _ _ (fun _ => rfl) (fun _ _ => rfl)
theorem fl_aCodeV0_5_6_2 : Fld k_aCodeV0_5_6 2 (kSlice (kInt .i64)) (fun x => x.Meta) (fun y x => { x with Meta := y }) := Fld.st (Fld.trans (Fld.snd _ _) (Fld.trans (Fld.snd _ _) (Fld.fst _ _))) _ _ (fun _ => rfl) (fun _ _ => rfl)
theorem fl_aCodeV0_5_6_3 : Fld k_aCodeV0_5_6 3 (kSlice k_aNode) (fun x => x.States) (fun y x => { x with States := y }) := Fld.st (Fld.trans (Fld.snd _ _) (Fld.trans (Fld.snd _ _) (Fld.trans (Fld.snd _ _) (Fld.fst _ _)))) _ _ (fun _ => rfl) (fun _ _ => rfl)
theorem fl_aCodeV0_5_6_4 : Fld k_aCodeV0_5_6 4 (kSlice k_aIns) (fun x => x.Main) (fun y x => { x with Main := y }) := Fld.st (Fld.trans (Fld.snd _ _) (Fld.trans (Fld.snd _ _) (Fld.trans (Fld.snd _ _) (Fld.trans (Fld.snd _ _) (Fld.fst _ _))))) _ _ (fun _ => rfl) (fun _ _ => rfl)
theorem fl_aCodeV0_5_6_5 : Fld k_aCodeV0_5_6 5 kVal (fun x => x.Acts) (fun y x => { x with Acts := y }) := Fld.st (Fld.trans (Fld.snd _ _) (Fld.trans (Fld.snd _ _) (Fld.trans (Fld.snd _ _) (Fld.trans (Fld.snd _ _) (Fld.trans (Fld.snd _ _) (Fld.fst _ _)))))) _ _ (fun _ => rfl) (fun _ _ => rfl)
theorem fl_aCodeV0_5_6_6 : Fld k_aCodeV0_5_6 6 kVal (fun x => x.Tables) (fun y x => { x with Tables := y }) := Fld.st (Fld.trans (Fld.snd _ _) (Fld.trans (Fld.snd _ _) (Fld.trans (Fld.snd _ _) (Fld.trans (Fld.snd _ _) (Fld.trans (Fld.snd _ _) (Fld.trans (Fld.snd _ _) (Fld.fst _ _))))))) _ _ (fun _ => rfl) (fun _ _ => rfl)
theorem fl_aCodeV0_5_6_7 : Fld k_aCodeV0_5_6 7 (kSlice (kInt .i64)) (fun x => x.Emits) (fun y x => { x with Emits := y }) := Fld.st (Fld.trans (Fld.snd _ _) (Fld.trans (Fld.snd _ _) (Fld.trans (Fld.snd _ _) (Fld.trans (Fld.snd _ _) (Fld.trans (Fld.snd _ _) (Fld.trans (Fld.snd _ _) (Fld.trans (Fld.snd _ _) (Fld.fst _ _)))))))) _ _ (fun _ => rfl) (fun _ _ => rfl)
theorem fl_aCodeV0_5_6_8 : Fld k_aCodeV0_5_6 8 (kSlice k_aArr) (fun x => x.Arrays) (fun y x => { x with Arrays := y }) := Fld.st (Fld.trans (Fld.snd _ _) (Fld.trans (Fld.snd _ _) (Fld.trans (Fld.snd _ _) (Fld.trans (Fld.snd _ _) (Fld.trans (Fld.snd _ _) (Fld.trans (Fld.snd _ _) (Fld.trans (Fld.snd _ _) (Fld.trans (Fld.snd _ _) (Fld.fst _ _))))))))) _ _ (fun _ => rfl) (fun _ _ => rfl)

theorem ty30 : TyOk Tryz.prog 30 (k_aCode) := ⟨by kernel_rfl, by kernel_rfl⟩
theorem fa30_0 : fldB Tryz.prog 30 0 0 = true := by kernel_rfl
theorem ty22 : TyOk Tryz.prog 22 (kSlice (kInt .i64)) := ⟨by kernel_rfl, by kernel_rfl⟩
theorem sl22 : isSlice Tryz.prog 22 3 = true := by kernel_rfl
theorem fn8 : fnB Tryz.prog 8 = true := by kernel_rfl
theorem fa30_1 : fldB Tryz.prog 30 1 1 = true := by kernel_rfl
theorem ty23 : TyOk Tryz.prog 23 (kSlice k_aHead) := ⟨by kernel_rfl, by kernel_rfl⟩
theorem sl23 : isSlice Tryz.prog 23 85 = true := by kernel_rfl
theorem sz85 : tySize Tryz.prog 85 = some (k_aHead).n := by kernel_rfl
theorem ty85 : TyOk Tryz.prog 85 (k_aHead) := ⟨by kernel_rfl, by kernel_rfl⟩
theorem fa85_0 : fldB Tryz.prog 85 0 0 = true := by kernel_rfl
theorem fn37 : fnB Tryz.prog 37 = true := by kernel_rfl
theorem fn9 : fnB Tryz.prog 9 = true := by kernel_rfl
theorem fa30_2 : fldB Tryz.prog 30 2 2 = true := by kernel_rfl
theorem fa30_3 : fldB Tryz.prog 30 3 3 = true := by kernel_rfl
theorem ty24 : TyOk Tryz.prog 24 (kSlice k_aNode) := ⟨by kernel_rfl, by kernel_rfl⟩
theorem sl24 : isSlice Tryz.prog 24 54 = true := by kernel_rfl
theorem sz54 : tySize Tryz.prog 54 = some (k_aNode).n := by kernel_rfl
theorem ty54 : TyOk Tryz.prog 54 (k_aNode) := ⟨by kernel_rfl, by kernel_rfl⟩
theorem fa54_0 : fldB Tryz.prog 54 0 0 = true := by kernel_rfl
theorem fa54_1 : fldB Tryz.prog 54 1 1 = true := by kernel_rfl
theorem ty25 : TyOk Tryz.prog 25 (kSlice k_aIns) := ⟨by kernel_rfl, by kernel_rfl⟩
theorem sl25 : isSlice Tryz.prog 25 75 = true := by kernel_rfl
theorem sz75 : tySize Tryz.prog 75 = some (k_aIns).n := by kernel_rfl
theorem ty75 : TyOk Tryz.prog 75 (k_aIns) := ⟨by kernel_rfl, by kernel_rfl⟩
theorem fa75_6 : fldB Tryz.prog 75 6 6 = true := by kernel_rfl
theorem fn39 : fnB Tryz.prog 39 = true := by kernel_rfl
theorem fn11 : fnB Tryz.prog 11 = true := by kernel_rfl
theorem fa54_3 : fldB Tryz.prog 54 3 3 = true := by kernel_rfl
theorem ty52 : TyOk Tryz.prog 52 (kSlice k_aJump) := ⟨by kernel_rfl, by kernel_rfl⟩
theorem sl52 : isSlice Tryz.prog 52 99 = true := by kernel_rfl
theorem fn72 : fnB Tryz.prog 72 = true := by kernel_rfl
theorem fn38 : fnB Tryz.prog 38 = true := by kernel_rfl
theorem fn10 : fnB Tryz.prog 10 = true := by kernel_rfl
theorem fa30_4 : fldB Tryz.prog 30 4 4 = true := by kernel_rfl
theorem fa30_5 : fldB Tryz.prog 30 5 5 = true := by kernel_rfl
theorem ty26 : TyOk Tryz.prog 26 (kSlice k_aAct) := ⟨by kernel_rfl, by kernel_rfl⟩
theorem sl26 : isSlice Tryz.prog 26 41 = true := by kernel_rfl
theorem sz41 : tySize Tryz.prog 41 = some (k_aAct).n := by kernel_rfl
theorem ty41 : TyOk Tryz.prog 41 (k_aAct) := ⟨by kernel_rfl, by kernel_rfl⟩
theorem fa41_0 : fldB Tryz.prog 41 0 0 = true := by kernel_rfl
theorem ty9 : TyOk Tryz.prog 9 (kStr) := ⟨by kernel_rfl, by kernel_rfl⟩
theorem str9 : isStr Tryz.prog 9 = true := by kernel_rfl
theorem fa41_1 : fldB Tryz.prog 41 1 1 = true := by kernel_rfl
theorem fa41_2 : fldB Tryz.prog 41 2 2 = true := by kernel_rfl
theorem fn40 : fnB Tryz.prog 40 = true := by kernel_rfl
theorem fn12 : fnB Tryz.prog 12 = true := by kernel_rfl
theorem fa30_6 : fldB Tryz.prog 30 6 6 = true := by kernel_rfl
theorem ty27 : TyOk Tryz.prog 27 (kSlice k_aTable) := ⟨by kernel_rfl, by kernel_rfl⟩
theorem sl27 : isSlice Tryz.prog 27 39 = true := by kernel_rfl
theorem sz39 : tySize Tryz.prog 39 = some (k_aTable).n := by kernel_rfl
theorem ty39 : TyOk Tryz.prog 39 (k_aTable) := ⟨by kernel_rfl, by kernel_rfl⟩
theorem fa39_0 : fldB Tryz.prog 39 0 0 = true := by kernel_rfl
theorem fa39_1 : fldB Tryz.prog 39 1 1 = true := by kernel_rfl
theorem fa39_2 : fldB Tryz.prog 39 2 2 = true := by kernel_rfl
theorem ty36 : TyOk Tryz.prog 36 (kSlice (kInt .u8)) := ⟨by kernel_rfl, by kernel_rfl⟩
theorem sl36 : isSlice Tryz.prog 36 103 = true := by kernel_rfl
theorem fn73 : fnB Tryz.prog 73 = true := by kernel_rfl
theorem fa39_3 : fldB Tryz.prog 39 3 3 = true := by kernel_rfl
theorem fa39_5 : fldB Tryz.prog 39 5 5 = true := by kernel_rfl
theorem ty37 : TyOk Tryz.prog 37 (kSlice k_aBits) := ⟨by kernel_rfl, by kernel_rfl⟩
theorem sl37 : isSlice Tryz.prog 37 72 = true := by kernel_rfl
theorem fn74 : fnB Tryz.prog 74 = true := by kernel_rfl
theorem fa39_7 : fldB Tryz.prog 39 7 7 = true := by kernel_rfl
theorem fn41 : fnB Tryz.prog 41 = true := by kernel_rfl
theorem fn13 : fnB Tryz.prog 13 = true := by kernel_rfl
theorem fa30_7 : fldB Tryz.prog 30 7 7 = true := by kernel_rfl
theorem fa30_8 : fldB Tryz.prog 30 8 8 = true := by kernel_rfl
theorem ty28 : TyOk Tryz.prog 28 (kSlice k_aArr) := ⟨by kernel_rfl, by kernel_rfl⟩
theorem sl28 : isSlice Tryz.prog 28 59 = true := by kernel_rfl
theorem sz59 : tySize Tryz.prog 59 = some (k_aArr).n := by kernel_rfl
theorem fa59_0 : fldB Tryz.prog 59 0 0 = true := by kernel_rfl
theorem fn14 : fnB Tryz.prog 14 = true := by kernel_rfl
theorem fn4 : fnB Tryz.prog 4 = true := by kernel_rfl
theorem ft51_0 : fldT Tryz.prog 51 0 0 (k_aCode).n (k_aCode).agg = true := by kernel_rfl
theorem zr51 : ZeroOk Tryz.prog 51 (k_code_look) (code_look.mk (aCode.mk [] [] [] [] [] [] [] [] [])) := ⟨[.slice none 0 0, .slice none 0 0, .slice none 0 0, .slice none 0 0, .slice none 0 0, .slice none 0 0, .slice none 0 0, .slice none 0 0, .slice none 0 0], by kernel_rfl, fun _ _ => ⟨[.slice none 0 0, .slice none 0 0, .slice none 0 0, .slice none 0 0, .slice none 0 0, .slice none 0 0, .slice none 0 0, .slice none 0 0, .slice none 0 0], _, rfl, ⟨[.slice none 0 0], _, rfl, kz_slice, ⟨[.slice none 0 0], _, rfl, kz_slice, ⟨[.slice none 0 0], _, rfl, kz_slice, ⟨[.slice none 0 0], _, rfl, kz_slice, ⟨[.slice none 0 0], _, rfl, kz_slice, ⟨[.slice none 0 0], _, rfl, kz_slice, ⟨[.slice none 0 0], _, rfl, kz_slice, ⟨[.slice none 0 0], _, rfl, kz_slice, ⟨[.slice none 0 0], _, rfl, kz_slice, rfl⟩⟩⟩⟩⟩⟩⟩⟩⟩, rfl⟩⟩
theorem stb51 : structB Tryz.prog 51 = true := by kernel_rfl
theorem sz51 : tySize Tryz.prog 51 = some (k_code_look).n := by kernel_rfl
theorem zr41 : ZeroOk Tryz.prog 41 (k_aAct) (aAct.mk ByteArray.empty [] []) := ⟨[.string ByteArray.empty, .slice none 0 0, .slice none 0 0], by kernel_rfl, fun _ _ => ⟨[.string ByteArray.empty], _, rfl, rfl, ⟨[.slice none 0 0], _, rfl, kz_slice, ⟨[.slice none 0 0], _, rfl, kz_slice, rfl⟩⟩⟩⟩
theorem zr54 : ZeroOk Tryz.prog 54 (k_aNode) (aNode.mk [] [] 0 [] 0) := ⟨[.slice none 0 0, .slice none 0 0, .int .i64 0, .slice none 0 0, .int .i64 0], by kernel_rfl, fun _ _ => ⟨[.slice none 0 0], _, rfl, kz_slice, ⟨[.slice none 0 0], _, rfl, kz_slice, ⟨[.int .i64 0], _, rfl, rfl, ⟨[.slice none 0 0], _, rfl, kz_slice, ⟨[.int .i64 0], _, rfl, rfl, rfl⟩⟩⟩⟩⟩⟩
theorem zr39 : ZeroOk Tryz.prog 39 (k_aTable) (aTable.mk ByteArray.empty [] [] [] 0 [] 0 []) := ⟨[.string ByteArray.empty, .slice none 0 0, .slice none 0 0, .slice none 0 0, .int .i64 0, .slice none 0 0, .int .i64 0, .slice none 0 0], by kernel_rfl, fun _ _ => ⟨[.string ByteArray.empty], _, rfl, rfl, ⟨[.slice none 0 0], _, rfl, kz_slice, ⟨[.slice none 0 0], _, rfl, kz_slice, ⟨[.slice none 0 0], _, rfl, kz_slice, ⟨[.int .i64 0], _, rfl, rfl, ⟨[.slice none 0 0], _, rfl, kz_slice, ⟨[.int .i64 0], _, rfl, rfl, ⟨[.slice none 0 0], _, rfl, kz_slice, rfl⟩⟩⟩⟩⟩⟩⟩⟩⟩
theorem ty51 : TyOk Tryz.prog 51 (k_code_look) := ⟨by kernel_rfl, by kernel_rfl⟩
theorem fa51_0 : fldB Tryz.prog 51 0 0 = true := by kernel_rfl
theorem zr30 : ZeroOk Tryz.prog 30 (k_aCode) (aCode.mk [] [] [] [] [] [] [] [] []) := ⟨[.slice none 0 0, .slice none 0 0, .slice none 0 0, .slice none 0 0, .slice none 0 0, .slice none 0 0, .slice none 0 0, .slice none 0 0, .slice none 0 0], by kernel_rfl, fun _ _ => ⟨[.slice none 0 0], _, rfl, kz_slice, ⟨[.slice none 0 0], _, rfl, kz_slice, ⟨[.slice none 0 0], _, rfl, kz_slice, ⟨[.slice none 0 0], _, rfl, kz_slice, ⟨[.slice none 0 0], _, rfl, kz_slice, ⟨[.slice none 0 0], _, rfl, kz_slice, ⟨[.slice none 0 0], _, rfl, kz_slice, ⟨[.slice none 0 0], _, rfl, kz_slice, ⟨[.slice none 0 0], _, rfl, kz_slice, rfl⟩⟩⟩⟩⟩⟩⟩⟩⟩⟩
theorem sz30 : tySize Tryz.prog 30 = some (k_aCode).n := by kernel_rfl
theorem fn43 : fnB Tryz.prog 43 = true := by kernel_rfl
theorem sz3 : tySize Tryz.prog 3 = some (kInt .i64).n := by kernel_rfl
theorem ty3 : TyOk Tryz.prog 3 (kInt .i64) := ⟨by kernel_rfl, by kernel_rfl⟩
theorem fn75 : fnB Tryz.prog 75 = true := by kernel_rfl
theorem fn42 : fnB Tryz.prog 42 = true := by kernel_rfl
theorem zv92 : ZeroOk Tryz.prog 92 kVal (.map none) := ⟨[.map none], by kernel_rfl, fun _ _ => ⟨rfl, rfl⟩⟩
theorem sv92 : tySize Tryz.prog 92 = some kVal.n := by kernel_rfl
theorem tv92 : TyOk Tryz.prog 92 kVal := ⟨by kernel_rfl, by kernel_rfl⟩
theorem fn47 : fnB Tryz.prog 47 = true := by kernel_rfl
theorem fn54 : fnB Tryz.prog 54 = true := by kernel_rfl
theorem fn80 : fnB Tryz.prog 80 = true := by kernel_rfl
theorem fn59 : fnB Tryz.prog 59 = true := by kernel_rfl
theorem zr3 : ZeroOk Tryz.prog 3 (kInt .i64) 0 := ⟨[.int .i64 0], by kernel_rfl, fun _ _ => rfl⟩
theorem mp92 : isMap Tryz.prog 92 3 3 = true := by kernel_rfl
theorem fn44 : fnB Tryz.prog 44 = true := by kernel_rfl
theorem fn45 : fnB Tryz.prog 45 = true := by kernel_rfl
theorem mixed : (Tryz.prog).follows .mixedOrders = true := by kernel_rfl
theorem zr85 : ZeroOk Tryz.prog 85 (k_aHead) (aHead.mk []) := ⟨[.slice none 0 0], by kernel_rfl, fun _ _ => ⟨[.slice none 0 0], _, rfl, kz_slice, rfl⟩⟩
theorem fn46 : fnB Tryz.prog 46 = true := by kernel_rfl
theorem fn62 : fnB Tryz.prog 62 = true := by kernel_rfl
theorem fn26 : fnB Tryz.prog 26 = true := by kernel_rfl
theorem fn15 : fnB Tryz.prog 15 = true := by kernel_rfl
theorem fn76 : fnB Tryz.prog 76 = true := by kernel_rfl
theorem fn48 : fnB Tryz.prog 48 = true := by kernel_rfl
theorem fn16 : fnB Tryz.prog 16 = true := by kernel_rfl
theorem ty59 : TyOk Tryz.prog 59 (k_aArr) := ⟨by kernel_rfl, by kernel_rfl⟩
theorem fa59_1 : fldB Tryz.prog 59 1 1 = true := by kernel_rfl
theorem ty57 : TyOk Tryz.prog 57 (kInt .u8) := ⟨by kernel_rfl, by kernel_rfl⟩
theorem fa59_2 : fldB Tryz.prog 59 2 2 = true := by kernel_rfl
theorem fn19 : fnB Tryz.prog 19 = true := by kernel_rfl
theorem fn18 : fnB Tryz.prog 18 = true := by kernel_rfl
theorem fn49 : fnB Tryz.prog 49 = true := by kernel_rfl
theorem fn17 : fnB Tryz.prog 17 = true := by kernel_rfl
theorem fn51 : fnB Tryz.prog 51 = true := by kernel_rfl
theorem zr91 : ZeroOk Tryz.prog 91 (kClo Tryz.prog (fun x : Int => [⟨vInt .i64, x⟩]) vBool) (fun _ => none) := ⟨[.nilFunc], by kernel_rfl, fun _ _ => kz_clo⟩
theorem sz91 : tySize Tryz.prog 91 = some (kClo Tryz.prog (fun x : Int => [⟨vInt .i64, x⟩]) vBool).n := by kernel_rfl
theorem fn53 : fnB Tryz.prog 53 = true := by kernel_rfl
theorem fn52 : fnB Tryz.prog 52 = true := by kernel_rfl
theorem fa75_7 : fldB Tryz.prog 75 7 7 = true := by kernel_rfl
theorem ty72 : TyOk Tryz.prog 72 (k_aBits) := ⟨by kernel_rfl, by kernel_rfl⟩
theorem fa72_0 : fldB Tryz.prog 72 0 0 = true := by kernel_rfl
theorem fn78 : fnB Tryz.prog 78 = true := by kernel_rfl
theorem fa72_1 : fldB Tryz.prog 72 1 1 = true := by kernel_rfl
theorem ty70 : TyOk Tryz.prog 70 (kInt .u64) := ⟨by kernel_rfl, by kernel_rfl⟩
theorem fa72_2 : fldB Tryz.prog 72 2 2 = true := by kernel_rfl
theorem zr72 : ZeroOk Tryz.prog 72 (k_aBits) (aBits.mk 0 0 0) := ⟨[.int .i64 0, .int .u64 0, .int .u64 0], by kernel_rfl, fun _ _ => ⟨[.int .i64 0], _, rfl, rfl, ⟨[.int .u64 0], _, rfl, rfl, ⟨[.int .u64 0], _, rfl, rfl, rfl⟩⟩⟩⟩
theorem ft72_2 : fldT Tryz.prog 72 2 2 (kInt .u64).n (kInt .u64).agg = true := by kernel_rfl
theorem ft72_1 : fldT Tryz.prog 72 1 1 (kInt .u64).n (kInt .u64).agg = true := by kernel_rfl
theorem ft72_0 : fldT Tryz.prog 72 0 0 (kInt .i64).n (kInt .i64).agg = true := by kernel_rfl
theorem stb72 : structB Tryz.prog 72 = true := by kernel_rfl
theorem sz72 : tySize Tryz.prog 72 = some (k_aBits).n := by kernel_rfl
theorem fn79 : fnB Tryz.prog 79 = true := by kernel_rfl
theorem eqok72 : EqOk Tryz.prog 72 k_aBits 2 eq_aBits := eq_struct rfl Tryz.underlying72 (by kernel_rfl) (.cons rfl fl_aBits_0 (by kernel_rfl) (by kernel_rfl) (eq_int (by kernel_rfl)) (.cons rfl fl_aBits_1 (by kernel_rfl) (by kernel_rfl) (eq_int (by kernel_rfl)) (.cons rfl fl_aBits_2 (by kernel_rfl) (by kernel_rfl) (eq_int (by kernel_rfl)) (.nil))))
theorem fn57 : fnB Tryz.prog 57 = true := by kernel_rfl
theorem fa75_1 : fldB Tryz.prog 75 1 1 = true := by kernel_rfl
theorem fn81 : fnB Tryz.prog 81 = true := by kernel_rfl
theorem ft113_3 : fldT Tryz.prog 113 3 3 (kClo Tryz.prog (fun x : code_look × aIns × code_place => [⟨(k_code_look).v, x.1⟩, ⟨(k_aIns).v, x.2.1⟩, ⟨(k_code_place).v, x.2.2⟩]) vBool).n (kClo Tryz.prog (fun x : code_look × aIns × code_place => [⟨(k_code_look).v, x.1⟩, ⟨(k_aIns).v, x.2.1⟩, ⟨(k_code_place).v, x.2.2⟩]) vBool).agg = true := by kernel_rfl
theorem ft113_2 : fldT Tryz.prog 113 2 2 (kBool).n (kBool).agg = true := by kernel_rfl
theorem ft113_1 : fldT Tryz.prog 113 1 1 (kStr).n (kStr).agg = true := by kernel_rfl
theorem ft113_0 : fldT Tryz.prog 113 0 0 (kInt .u8).n (kInt .u8).agg = true := by kernel_rfl
theorem zr113 : ZeroOk Tryz.prog 113 (k_code_row) (code_row.mk 0 ByteArray.empty false (fun _ => none)) := ⟨[.int .u8 0, .string ByteArray.empty, .bool false, .nilFunc], by kernel_rfl, fun _ _ => ⟨[.int .u8 0], _, rfl, rfl, ⟨[.string ByteArray.empty], _, rfl, rfl, ⟨[.bool false], _, rfl, rfl, ⟨[.nilFunc], _, rfl, kz_clo, rfl⟩⟩⟩⟩⟩
theorem stb113 : structB Tryz.prog 113 = true := by kernel_rfl
theorem fa75_2 : fldB Tryz.prog 75 2 2 = true := by kernel_rfl
theorem fn82 : fnB Tryz.prog 82 = true := by kernel_rfl
theorem fa75_8 : fldB Tryz.prog 75 8 10 = true := by kernel_rfl
theorem ty73 : TyOk Tryz.prog 73 (kInt .u8) := ⟨by kernel_rfl, by kernel_rfl⟩
theorem fa75_3 : fldB Tryz.prog 75 3 3 = true := by kernel_rfl
theorem fa75_5 : fldB Tryz.prog 75 5 5 = true := by kernel_rfl
theorem fa75_4 : fldB Tryz.prog 75 4 4 = true := by kernel_rfl
theorem xt124 : XtOk Tryz.prog 124 add64Entry := xt_of Tryz.func124 rfl rfl (by kernel_rfl) (by kernel_rfl)
theorem fn123 : fnB Tryz.prog 123 = true := by kernel_rfl
theorem mp153 : isMap Tryz.prog 153 73 151 = true := by kernel_rfl
theorem xt126 : XtOk Tryz.prog 126 sub64Entry := xt_of Tryz.func126 rfl rfl (by kernel_rfl) (by kernel_rfl)
theorem fn125 : fnB Tryz.prog 125 = true := by kernel_rfl
theorem fn128 : fnB Tryz.prog 128 = true := by kernel_rfl
theorem fn127 : fnB Tryz.prog 127 = true := by kernel_rfl
theorem fn129 : fnB Tryz.prog 129 = true := by kernel_rfl
theorem fn130 : fnB Tryz.prog 130 = true := by kernel_rfl
theorem fn131 : fnB Tryz.prog 131 = true := by kernel_rfl
theorem sz70 : tySize Tryz.prog 70 = some (kInt .u64).n := by kernel_rfl
theorem fn133 : fnB Tryz.prog 133 = true := by kernel_rfl
theorem fn132 : fnB Tryz.prog 132 = true := by kernel_rfl
theorem fn134 : fnB Tryz.prog 134 = true := by kernel_rfl
theorem fn136 : fnB Tryz.prog 136 = true := by kernel_rfl
theorem fn135 : fnB Tryz.prog 135 = true := by kernel_rfl
theorem fn137 : fnB Tryz.prog 137 = true := by kernel_rfl
theorem fn112 : fnB Tryz.prog 112 = true := by kernel_rfl
theorem zr151 : ZeroOk Tryz.prog 151 (kClo Tryz.prog (fun x : aBits × aBits => [⟨(k_aBits).v, x.1⟩, ⟨(k_aBits).v, x.2⟩]) ((k_aBits).v)) (fun _ => none) := ⟨[.nilFunc], by kernel_rfl, fun _ _ => kz_clo⟩
theorem fn140 : fnB Tryz.prog 140 = true := by kernel_rfl
theorem fn139 : fnB Tryz.prog 139 = true := by kernel_rfl
theorem fn138 : fnB Tryz.prog 138 = true := by kernel_rfl
theorem fn114 : fnB Tryz.prog 114 = true := by kernel_rfl
theorem fn141 : fnB Tryz.prog 141 = true := by kernel_rfl
theorem int156 : isInt Tryz.prog 156 .u64 = true := by kernel_rfl
theorem fn142 : fnB Tryz.prog 142 = true := by kernel_rfl
theorem fn143 : fnB Tryz.prog 143 = true := by kernel_rfl
theorem fn144 : fnB Tryz.prog 144 = true := by kernel_rfl
theorem fn113 : fnB Tryz.prog 113 = true := by kernel_rfl
theorem fn115 : fnB Tryz.prog 115 = true := by kernel_rfl
theorem fn107 : fnB Tryz.prog 107 = true := by kernel_rfl
theorem fn83 : fnB Tryz.prog 83 = true := by kernel_rfl
theorem ty159 : TyOk Tryz.prog 159 (kInt .u32) := ⟨by kernel_rfl, by kernel_rfl⟩
theorem fn146 : fnB Tryz.prog 146 = true := by kernel_rfl
theorem fn116 : fnB Tryz.prog 116 = true := by kernel_rfl
theorem ft145_2 : fldT Tryz.prog 145 2 2 (kClo Tryz.prog (fun x : (List Int) => [⟨vSlice (kInt .u8), x⟩]) (vInt .u32)).n (kClo Tryz.prog (fun x : (List Int) => [⟨vSlice (kInt .u8), x⟩]) (vInt .u32)).agg = true := by kernel_rfl
theorem ft145_1 : fldT Tryz.prog 145 1 1 (kInt .i64).n (kInt .i64).agg = true := by kernel_rfl
theorem ft145_0 : fldT Tryz.prog 145 0 0 (kStr).n (kStr).agg = true := by kernel_rfl
theorem zr145 : ZeroOk Tryz.prog 145 (k_sums_row) (sums_row.mk ByteArray.empty 0 (fun _ => none)) := ⟨[.string ByteArray.empty, .int .i64 0, .nilFunc], by kernel_rfl, fun _ _ => ⟨[.string ByteArray.empty], _, rfl, rfl, ⟨[.int .i64 0], _, rfl, rfl, ⟨[.nilFunc], _, rfl, kz_clo, rfl⟩⟩⟩⟩
theorem stb145 : structB Tryz.prog 145 = true := by kernel_rfl
theorem mp146 : isMap Tryz.prog 146 3 145 = true := by kernel_rfl
theorem fn118 : fnB Tryz.prog 118 = true := by kernel_rfl
theorem zr159 : ZeroOk Tryz.prog 159 (kInt .u32) 0 := ⟨[.int .u32 0], by kernel_rfl, fun _ _ => rfl⟩
theorem sz159 : tySize Tryz.prog 159 = some (kInt .u32).n := by kernel_rfl
theorem fn119 : fnB Tryz.prog 119 = true := by kernel_rfl
theorem fn122 : fnB Tryz.prog 122 = true := by kernel_rfl
theorem fn108 : fnB Tryz.prog 108 = true := by kernel_rfl
theorem fn85 : fnB Tryz.prog 85 = true := by kernel_rfl
theorem fn84 : fnB Tryz.prog 84 = true := by kernel_rfl
theorem fn86 : fnB Tryz.prog 86 = true := by kernel_rfl
theorem fn87 : fnB Tryz.prog 87 = true := by kernel_rfl
theorem fn88 : fnB Tryz.prog 88 = true := by kernel_rfl
theorem fn90 : fnB Tryz.prog 90 = true := by kernel_rfl
theorem fn89 : fnB Tryz.prog 89 = true := by kernel_rfl
theorem fn91 : fnB Tryz.prog 91 = true := by kernel_rfl
theorem fn92 : fnB Tryz.prog 92 = true := by kernel_rfl
theorem fn93 : fnB Tryz.prog 93 = true := by kernel_rfl
theorem fn94 : fnB Tryz.prog 94 = true := by kernel_rfl
theorem fn95 : fnB Tryz.prog 95 = true := by kernel_rfl
theorem fn96 : fnB Tryz.prog 96 = true := by kernel_rfl
theorem fn97 : fnB Tryz.prog 97 = true := by kernel_rfl
theorem fa117_2 : fldB Tryz.prog 117 2 2 = true := by kernel_rfl
theorem ty4 : TyOk Tryz.prog 4 (kBool) := ⟨by kernel_rfl, by kernel_rfl⟩
theorem fn98 : fnB Tryz.prog 98 = true := by kernel_rfl
theorem fn110 : fnB Tryz.prog 110 = true := by kernel_rfl
theorem fn109 : fnB Tryz.prog 109 = true := by kernel_rfl
theorem fn100 : fnB Tryz.prog 100 = true := by kernel_rfl
theorem fn99 : fnB Tryz.prog 99 = true := by kernel_rfl
theorem fa117_0 : fldB Tryz.prog 117 0 0 = true := by kernel_rfl
theorem fa117_1 : fldB Tryz.prog 117 1 1 = true := by kernel_rfl
theorem fn101 : fnB Tryz.prog 101 = true := by kernel_rfl
theorem fn102 : fnB Tryz.prog 102 = true := by kernel_rfl
theorem sl108 : isSlice Tryz.prog 108 113 = true := by kernel_rfl
theorem zb113 : zeroB Tryz.prog 113 = true := by kernel_rfl
theorem sz113 : tySize Tryz.prog 113 = some (k_code_row).n := by kernel_rfl
theorem fn63 : fnB Tryz.prog 63 = true := by kernel_rfl
theorem fa113_0 : fldB Tryz.prog 113 0 0 = true := by kernel_rfl
theorem ty69 : TyOk Tryz.prog 69 (kInt .u8) := ⟨by kernel_rfl, by kernel_rfl⟩
theorem fa75_0 : fldB Tryz.prog 75 0 0 = true := by kernel_rfl
theorem fn65 : fnB Tryz.prog 65 = true := by kernel_rfl
theorem ty113 : TyOk Tryz.prog 113 (k_code_row) := ⟨by kernel_rfl, by kernel_rfl⟩
theorem fn64 : fnB Tryz.prog 64 = true := by kernel_rfl
theorem fa113_1 : fldB Tryz.prog 113 1 1 = true := by kernel_rfl
theorem ft134_1 : fldT Tryz.prog 134 1 1 (kInt .i32).n (kInt .i32).agg = true := by kernel_rfl
theorem ft134_0 : fldT Tryz.prog 134 0 0 (kBool).n (kBool).agg = true := by kernel_rfl
theorem zr134 : ZeroOk Tryz.prog 134 (k_An_is_sign) (An_is_sign.mk false 0) := ⟨[.bool false, .int .i32 0], by kernel_rfl, fun _ _ => ⟨[.bool false], _, rfl, rfl, ⟨[.int .i32 0], _, rfl, rfl, rfl⟩⟩⟩
theorem stb134 : structB Tryz.prog 134 = true := by kernel_rfl
theorem sl135 : isSlice Tryz.prog 135 134 = true := by kernel_rfl
theorem zb134 : zeroB Tryz.prog 134 = true := by kernel_rfl
theorem sz134 : tySize Tryz.prog 134 = some (k_An_is_sign).n := by kernel_rfl
theorem ty134 : TyOk Tryz.prog 134 (k_An_is_sign) := ⟨by kernel_rfl, by kernel_rfl⟩
theorem fa134_0 : fldB Tryz.prog 134 0 0 = true := by kernel_rfl
theorem sl137 : isSlice Tryz.prog 137 21 = true := by kernel_rfl
theorem int21 : isInt Tryz.prog 21 .i32 = true := by kernel_rfl
theorem fa134_1 : fldB Tryz.prog 134 1 1 = true := by kernel_rfl
theorem ty21 : TyOk Tryz.prog 21 (kInt .i32) := ⟨by kernel_rfl, by kernel_rfl⟩
theorem sz21 : tySize Tryz.prog 21 = some (kInt .i32).n := by kernel_rfl
theorem fn111 : fnB Tryz.prog 111 = true := by kernel_rfl
theorem fn103 : fnB Tryz.prog 103 = true := by kernel_rfl
theorem fn66 : fnB Tryz.prog 66 = true := by kernel_rfl
theorem fa113_3 : fldB Tryz.prog 113 3 3 = true := by kernel_rfl
theorem ty111 : TyOk Tryz.prog 111 (kClo Tryz.prog (fun x : code_look × aIns × code_place => [⟨(k_code_look).v, x.1⟩, ⟨(k_aIns).v, x.2.1⟩, ⟨(k_code_place).v, x.2.2⟩]) vBool) := ⟨by kernel_rfl, by kernel_rfl⟩
theorem ft117_2 : fldT Tryz.prog 117 2 2 (kBool).n (kBool).agg = true := by kernel_rfl
theorem ft117_1 : fldT Tryz.prog 117 1 1 (kInt .i64).n (kInt .i64).agg = true := by kernel_rfl
theorem ft117_0 : fldT Tryz.prog 117 0 0 (kInt .i64).n (kInt .i64).agg = true := by kernel_rfl
theorem zr117 : ZeroOk Tryz.prog 117 (k_code_place) (code_place.mk 0 0 false) := ⟨[.int .i64 0, .int .i64 0, .bool false], by kernel_rfl, fun _ _ => ⟨[.int .i64 0], _, rfl, rfl, ⟨[.int .i64 0], _, rfl, rfl, ⟨[.bool false], _, rfl, rfl, rfl⟩⟩⟩⟩
theorem stb117 : structB Tryz.prog 117 = true := by kernel_rfl
theorem fa113_2 : fldB Tryz.prog 113 2 2 = true := by kernel_rfl
theorem fn28 : fnB Tryz.prog 28 = true := by kernel_rfl
theorem ty91 : TyOk Tryz.prog 91 (kClo Tryz.prog (fun x : Int => [⟨vInt .i64, x⟩]) vBool) := ⟨by kernel_rfl, by kernel_rfl⟩
theorem fa54_4 : fldB Tryz.prog 54 4 4 = true := by kernel_rfl
theorem fa54_2 : fldB Tryz.prog 54 2 2 = true := by kernel_rfl
theorem fa99_2 : fldB Tryz.prog 99 2 6 = true := by kernel_rfl
theorem fa99_0 : fldB Tryz.prog 99 0 0 = true := by kernel_rfl
theorem fa99_1 : fldB Tryz.prog 99 1 3 = true := by kernel_rfl
theorem fn56 : fnB Tryz.prog 56 = true := by kernel_rfl
theorem sz99 : tySize Tryz.prog 99 = some (k_aJump).n := by kernel_rfl
theorem ty99 : TyOk Tryz.prog 99 (k_aJump) := ⟨by kernel_rfl, by kernel_rfl⟩
theorem fn77 : fnB Tryz.prog 77 = true := by kernel_rfl
theorem fn55 : fnB Tryz.prog 55 = true := by kernel_rfl
theorem fn22 : fnB Tryz.prog 22 = true := by kernel_rfl
theorem fn21 : fnB Tryz.prog 21 = true := by kernel_rfl
theorem fn50 : fnB Tryz.prog 50 = true := by kernel_rfl
theorem fn20 : fnB Tryz.prog 20 = true := by kernel_rfl
theorem sz103 : tySize Tryz.prog 103 = some (kInt .u8).n := by kernel_rfl
theorem ty103 : TyOk Tryz.prog 103 (kInt .u8) := ⟨by kernel_rfl, by kernel_rfl⟩
theorem fa39_6 : fldB Tryz.prog 39 6 6 = true := by kernel_rfl
theorem fa39_4 : fldB Tryz.prog 39 4 4 = true := by kernel_rfl
theorem fn61 : fnB Tryz.prog 61 = true := by kernel_rfl
theorem fn60 : fnB Tryz.prog 60 = true := by kernel_rfl
theorem fn25 : fnB Tryz.prog 25 = true := by kernel_rfl
theorem fn24 : fnB Tryz.prog 24 = true := by kernel_rfl
theorem fn58 : fnB Tryz.prog 58 = true := by kernel_rfl
theorem fn23 : fnB Tryz.prog 23 = true := by kernel_rfl
theorem fn27 : fnB Tryz.prog 27 = true := by kernel_rfl
theorem fn5 : fnB Tryz.prog 5 = true := by kernel_rfl
theorem zr30_aCodeV0_5_6 : ZeroOk Tryz.prog 30 (k_aCodeV0_5_6) (aCodeV0_5_6.mk (.slice none 0 0) [] [] [] [] (.slice none 0 0) (.slice none 0 0) [] []) := ⟨[.slice none 0 0, .slice none 0 0, .slice none 0 0, .slice none 0 0, .slice none 0 0, .slice none 0 0, .slice none 0 0, .slice none 0 0, .slice none 0 0], by kernel_rfl, fun _ _ => ⟨[.slice none 0 0], _, rfl, ⟨rfl, rfl⟩, ⟨[.slice none 0 0], _, rfl, kz_slice, ⟨[.slice none 0 0], _, rfl, kz_slice, ⟨[.slice none 0 0], _, rfl, kz_slice, ⟨[.slice none 0 0], _, rfl, kz_slice, ⟨[.slice none 0 0], _, rfl, ⟨rfl, rfl⟩, ⟨[.slice none 0 0], _, rfl, ⟨rfl, rfl⟩, ⟨[.slice none 0 0], _, rfl, kz_slice, ⟨[.slice none 0 0], _, rfl, kz_slice, rfl⟩⟩⟩⟩⟩⟩⟩⟩⟩⟩
theorem el22 : ElOk Tryz.prog 22 3 (kInt .i64) 8 := elOk (by kernel_rfl)
theorem zb3 : zeroB Tryz.prog 3 = true := by kernel_rfl
theorem fn30 : fnB Tryz.prog 30 = true := by kernel_rfl
theorem el23 : ElOk Tryz.prog 23 85 (k_aHead) 24 := elOk (by kernel_rfl)
theorem ft85_0 : fldT Tryz.prog 85 0 0 (kSlice (kInt .i64)).n (kSlice (kInt .i64)).agg = true := by kernel_rfl
theorem stb85 : structB Tryz.prog 85 = true := by kernel_rfl
theorem fn67 : fnB Tryz.prog 67 = true := by kernel_rfl
theorem zb85 : zeroB Tryz.prog 85 = true := by kernel_rfl
theorem fn31 : fnB Tryz.prog 31 = true := by kernel_rfl
theorem el24 : ElOk Tryz.prog 24 54 (k_aNode) 88 := elOk (by kernel_rfl)
theorem el25 : ElOk Tryz.prog 25 75 (k_aIns) 104 := elOk (by kernel_rfl)
theorem zr75 : ZeroOk Tryz.prog 75 (k_aIns) (aIns.mk 0 0 0 0 0 0 [] (aBits.mk 0 0 0) 0) := ⟨[.int .u8 0, .int .i64 0, .int .i64 0, .int .i64 0, .int .i64 0, .int .i64 0, .slice none 0 0, .int .i64 0, .int .u64 0, .int .u64 0, .int .u8 0], by kernel_rfl, fun _ _ => ⟨[.int .u8 0], _, rfl, rfl, ⟨[.int .i64 0], _, rfl, rfl, ⟨[.int .i64 0], _, rfl, rfl, ⟨[.int .i64 0], _, rfl, rfl, ⟨[.int .i64 0], _, rfl, rfl, ⟨[.int .i64 0], _, rfl, rfl, ⟨[.slice none 0 0], _, rfl, kz_slice, ⟨[.int .i64 0, .int .u64 0, .int .u64 0], _, rfl, ⟨[.int .i64 0], _, rfl, rfl, ⟨[.int .u64 0], _, rfl, rfl, ⟨[.int .u64 0], _, rfl, rfl, rfl⟩⟩⟩, ⟨[.int .u8 0], _, rfl, rfl, rfl⟩⟩⟩⟩⟩⟩⟩⟩⟩⟩
theorem ft75_8 : fldT Tryz.prog 75 8 10 (kInt .u8).n (kInt .u8).agg = true := by kernel_rfl
theorem ft75_7 : fldT Tryz.prog 75 7 7 (k_aBits).n (k_aBits).agg = true := by kernel_rfl
theorem ft75_6 : fldT Tryz.prog 75 6 6 (kSlice (kInt .i64)).n (kSlice (kInt .i64)).agg = true := by kernel_rfl
theorem ft75_5 : fldT Tryz.prog 75 5 5 (kInt .i64).n (kInt .i64).agg = true := by kernel_rfl
theorem ft75_4 : fldT Tryz.prog 75 4 4 (kInt .i64).n (kInt .i64).agg = true := by kernel_rfl
theorem ft75_3 : fldT Tryz.prog 75 3 3 (kInt .i64).n (kInt .i64).agg = true := by kernel_rfl
theorem ft75_2 : fldT Tryz.prog 75 2 2 (kInt .i64).n (kInt .i64).agg = true := by kernel_rfl
theorem ft75_1 : fldT Tryz.prog 75 1 1 (kInt .i64).n (kInt .i64).agg = true := by kernel_rfl
theorem ft75_0 : fldT Tryz.prog 75 0 0 (kInt .u8).n (kInt .u8).agg = true := by kernel_rfl
theorem stb75 : structB Tryz.prog 75 = true := by kernel_rfl
theorem fn69 : fnB Tryz.prog 69 = true := by kernel_rfl
theorem zb75 : zeroB Tryz.prog 75 = true := by kernel_rfl
theorem fn33 : fnB Tryz.prog 33 = true := by kernel_rfl
theorem el52 : ElOk Tryz.prog 52 99 (k_aJump) 56 := elOk (by kernel_rfl)
theorem zb99 : zeroB Tryz.prog 99 = true := by kernel_rfl
theorem ft99_2 : fldT Tryz.prog 99 2 6 (kInt .i64).n (kInt .i64).agg = true := by kernel_rfl
theorem zr99 : ZeroOk Tryz.prog 99 (k_aJump) (aJump.mk (aBits.mk 0 0 0) (aBits.mk 0 0 0) 0) := ⟨[.int .i64 0, .int .u64 0, .int .u64 0, .int .i64 0, .int .u64 0, .int .u64 0, .int .i64 0], by kernel_rfl, fun _ _ => ⟨[.int .i64 0, .int .u64 0, .int .u64 0], _, rfl, ⟨[.int .i64 0], _, rfl, rfl, ⟨[.int .u64 0], _, rfl, rfl, ⟨[.int .u64 0], _, rfl, rfl, rfl⟩⟩⟩, ⟨[.int .i64 0, .int .u64 0, .int .u64 0], _, rfl, ⟨[.int .i64 0], _, rfl, rfl, ⟨[.int .u64 0], _, rfl, rfl, ⟨[.int .u64 0], _, rfl, rfl, rfl⟩⟩⟩, ⟨[.int .i64 0], _, rfl, rfl, rfl⟩⟩⟩⟩
theorem stb99 : structB Tryz.prog 99 = true := by kernel_rfl
theorem fn104 : fnB Tryz.prog 104 = true := by kernel_rfl
theorem ft54_4 : fldT Tryz.prog 54 4 4 (kInt .i64).n (kInt .i64).agg = true := by kernel_rfl
theorem ft54_3 : fldT Tryz.prog 54 3 3 (kSlice k_aJump).n (kSlice k_aJump).agg = true := by kernel_rfl
theorem ft54_2 : fldT Tryz.prog 54 2 2 (kInt .i64).n (kInt .i64).agg = true := by kernel_rfl
theorem ft54_1 : fldT Tryz.prog 54 1 1 (kSlice k_aIns).n (kSlice k_aIns).agg = true := by kernel_rfl
theorem ft54_0 : fldT Tryz.prog 54 0 0 (kSlice (kInt .i64)).n (kSlice (kInt .i64)).agg = true := by kernel_rfl
theorem stb54 : structB Tryz.prog 54 = true := by kernel_rfl
theorem fn68 : fnB Tryz.prog 68 = true := by kernel_rfl
theorem zb54 : zeroB Tryz.prog 54 = true := by kernel_rfl
theorem fn32 : fnB Tryz.prog 32 = true := by kernel_rfl
theorem el26 : ElOk Tryz.prog 26 41 (k_aAct) 64 := elOk (by kernel_rfl)
theorem ft41_2 : fldT Tryz.prog 41 2 2 (kSlice k_aIns).n (kSlice k_aIns).agg = true := by kernel_rfl
theorem ft41_1 : fldT Tryz.prog 41 1 1 (kSlice (kInt .i64)).n (kSlice (kInt .i64)).agg = true := by kernel_rfl
theorem ft41_0 : fldT Tryz.prog 41 0 0 (kStr).n (kStr).agg = true := by kernel_rfl
theorem stb41 : structB Tryz.prog 41 = true := by kernel_rfl
theorem fn70 : fnB Tryz.prog 70 = true := by kernel_rfl
theorem zb41 : zeroB Tryz.prog 41 = true := by kernel_rfl
theorem fn34 : fnB Tryz.prog 34 = true := by kernel_rfl
theorem el27 : ElOk Tryz.prog 27 39 (k_aTable) 152 := elOk (by kernel_rfl)
theorem el36 : ElOk Tryz.prog 36 103 (kInt .u8) 1 := elOk (by kernel_rfl)
theorem zb103 : zeroB Tryz.prog 103 = true := by kernel_rfl
theorem fn105 : fnB Tryz.prog 105 = true := by kernel_rfl
theorem el37 : ElOk Tryz.prog 37 72 (k_aBits) 24 := elOk (by kernel_rfl)
theorem zb72 : zeroB Tryz.prog 72 = true := by kernel_rfl
theorem fn106 : fnB Tryz.prog 106 = true := by kernel_rfl
theorem ft39_7 : fldT Tryz.prog 39 7 7 (kSlice k_aIns).n (kSlice k_aIns).agg = true := by kernel_rfl
theorem ft39_6 : fldT Tryz.prog 39 6 6 (kInt .i64).n (kInt .i64).agg = true := by kernel_rfl
theorem ft39_5 : fldT Tryz.prog 39 5 5 (kSlice k_aBits).n (kSlice k_aBits).agg = true := by kernel_rfl
theorem ft39_4 : fldT Tryz.prog 39 4 4 (kInt .i64).n (kInt .i64).agg = true := by kernel_rfl
theorem ft39_3 : fldT Tryz.prog 39 3 3 (kSlice (kInt .i64)).n (kSlice (kInt .i64)).agg = true := by kernel_rfl
theorem ft39_2 : fldT Tryz.prog 39 2 2 (kSlice (kInt .u8)).n (kSlice (kInt .u8)).agg = true := by kernel_rfl
theorem ft39_1 : fldT Tryz.prog 39 1 1 (kSlice (kInt .i64)).n (kSlice (kInt .i64)).agg = true := by kernel_rfl
theorem ft39_0 : fldT Tryz.prog 39 0 0 (kStr).n (kStr).agg = true := by kernel_rfl
theorem stb39 : structB Tryz.prog 39 = true := by kernel_rfl
theorem fn71 : fnB Tryz.prog 71 = true := by kernel_rfl
theorem zb39 : zeroB Tryz.prog 39 = true := by kernel_rfl
theorem fn35 : fnB Tryz.prog 35 = true := by kernel_rfl
theorem el28 : ElOk Tryz.prog 28 59 (k_aArr) 32 := elOk (by kernel_rfl)
theorem zb59 : zeroB Tryz.prog 59 = true := by kernel_rfl
theorem ft59_2 : fldT Tryz.prog 59 2 2 (kInt .i64).n (kInt .i64).agg = true := by kernel_rfl
theorem zr59 : ZeroOk Tryz.prog 59 (k_aArr) (aArr.mk ByteArray.empty 0 0) := ⟨[.string ByteArray.empty, .int .u8 0, .int .i64 0], by kernel_rfl, fun _ _ => ⟨[.string ByteArray.empty], _, rfl, rfl, ⟨[.int .u8 0], _, rfl, rfl, ⟨[.int .i64 0], _, rfl, rfl, rfl⟩⟩⟩⟩
theorem stb59 : structB Tryz.prog 59 = true := by kernel_rfl
theorem fn36 : fnB Tryz.prog 36 = true := by kernel_rfl
theorem ft30_8 : fldT Tryz.prog 30 8 8 (kSlice k_aArr).n (kSlice k_aArr).agg = true := by kernel_rfl
theorem ft30_7 : fldT Tryz.prog 30 7 7 (kSlice (kInt .i64)).n (kSlice (kInt .i64)).agg = true := by kernel_rfl
theorem ft30_6 : fldT Tryz.prog 30 6 6 (kVal).n (kVal).agg = true := by kernel_rfl
theorem ft30_5 : fldT Tryz.prog 30 5 5 (kVal).n (kVal).agg = true := by kernel_rfl
theorem ft30_4 : fldT Tryz.prog 30 4 4 (kSlice k_aIns).n (kSlice k_aIns).agg = true := by kernel_rfl
theorem ft30_3 : fldT Tryz.prog 30 3 3 (kSlice k_aNode).n (kSlice k_aNode).agg = true := by kernel_rfl
theorem ft30_2 : fldT Tryz.prog 30 2 2 (kSlice (kInt .i64)).n (kSlice (kInt .i64)).agg = true := by kernel_rfl
theorem ft30_1 : fldT Tryz.prog 30 1 1 (kSlice k_aHead).n (kSlice k_aHead).agg = true := by kernel_rfl
theorem ft30_0 : fldT Tryz.prog 30 0 0 (kVal).n (kVal).agg = true := by kernel_rfl
theorem stb30 : structB Tryz.prog 30 = true := by kernel_rfl
theorem sz30_aCodeV0_5_6 : tySize Tryz.prog 30 = some (k_aCodeV0_5_6).n := by kernel_rfl
theorem ty30_aCodeV0_5_6 : TyOk Tryz.prog 30 (k_aCodeV0_5_6) := ⟨by kernel_rfl, by kernel_rfl⟩
theorem fn7 : fnB Tryz.prog 7 = true := by kernel_rfl
theorem tv22 : TyOk Tryz.prog 22 kVal := ⟨by kernel_rfl, by kernel_rfl⟩
theorem tv27 : TyOk Tryz.prog 27 kVal := ⟨by kernel_rfl, by kernel_rfl⟩
theorem sz25 : tySize Tryz.prog 25 = some (kSlice k_aIns).n := by kernel_rfl
theorem tv26 : TyOk Tryz.prog 26 kVal := ⟨by kernel_rfl, by kernel_rfl⟩
theorem fn29 : fnB Tryz.prog 29 = true := by kernel_rfl
theorem fn6 : fnB Tryz.prog 6 = true := by kernel_rfl
theorem int3 : isInt Tryz.prog 3 .i64 = true := by kernel_rfl
theorem sv22 : tySize Tryz.prog 22 = some kVal.n := by kernel_rfl
theorem fn3 : fnB Tryz.prog 3 = true := by kernel_rfl
-- pointsman/pointsmanlaw01.IntsSize
theorem ok8 (l : List Int) (y_ : Int) (hp_ : pointsmanlaw01_IntsSize l = some y_) : FP Tryz.prog 8 [⟨vSlice (kInt .i64), l⟩] (vInt .i64) y_ := by
  unfold pointsmanlaw01_IntsSize at hp_
  refine fc_of 5 Tryz.func8 rfl fn8 rfl (Nat.le_of_ble_eq_true rfl) fun I_ w_ F_ => ?_
  refine t_seq ?_
  refine t_reg ?_
  refine st (l_assign (o_i) (lt rfl)) ?_
  refine r_nil (k_seq ?_)
  refine t_seq ?_
  refine t_reg ?_
  refine st (l_move (o_t rfl) (lt rfl)) ?_
  refine st (l_lens (o_t rfl) sl22 (lt rfl)) ?_
  refine st (l_assign (o_t rfl) (lt rfl)) ?_
  refine r_nil (k_seq ?_)
  cases hp_
  exact t_ret (k_ret () rfl rfl rfl rfl rfl)
-- pointsman/pointsmanlaw01.HeadSize
theorem ok37 (x : aHead) (y_ : Int) (hp_ : pointsmanlaw01_HeadSize x = some y_) : FP Tryz.prog 37 [⟨(k_aHead).v, x⟩] (vInt .i64) y_ := by
  unfold pointsmanlaw01_HeadSize at hp_
  refine fc_of 12 Tryz.func37 rfl fn37 rfl (Nat.le_of_ble_eq_true rfl) fun I_ w_ F_ => ?_
  refine t_seq ?_
  refine t_reg ?_
  refine st (l_box (o_t rfl) (lt rfl)) ?_
  refine st (l_assign (o_i) (lt rfl)) ?_
  refine r_nil (k_seq ?_)
  refine t_seq ?_
  refine t_reg ?_
  refine st (l_assign (o_i) (lt rfl)) ?_
  refine r_nil (k_seq ?_)
  refine t_seq ?_
  refine t_seq ?_
  refine t_reg ?_
  refine st (l_move (o_t rfl) (lt rfl)) ?_
  refine st (l_cmp (o_t rfl) (o_i) .leq (lt rfl)) ?_
  refine r_nil (k_seq ?_)
  rcases bt (decide ((1 : Int) ≤ (1048576 : Int))) with hb1 | hb1
  · rw [if_neg (nt hb1)] at hp_
    refine t_iff (o_t rfl) hb1 ?_
    refine t_skip (k_seq ?_)
    refine t_seq ?_
    refine t_reg ?_
    refine st (l_move (o_t rfl) (lt rfl)) ?_
    refine st (l_assign (o_t rfl) (lt rfl)) ?_
    refine r_nil (k_seq ?_)
    cases hp_
    exact t_ret (k_ret () rfl rfl rfl rfl rfl)
  · rw [if_pos hb1] at hp_
    refine t_ift (o_t rfl) hb1 ?_
    refine t_reg ?_
    refine st (l_move (o_t rfl) (lt rfl)) ?_
    refine st (l_fa (o_t rfl) fl_aHead_0 fa85_0 (lt rfl)) ?_
    refine st (l_ld (o_t rfl) ty22 (lt rfl)) ?_
    obtain ⟨t2, h3, hp_⟩ := bs hp_
    refine st (l_call (ok8 x.Slots _ h3) (.cons (o_t rfl) (.nil)) (lt rfl)) ?_
    refine st (l_bin (o_t rfl) (o_t rfl) .add (lt rfl)) ?_
    refine st (l_assign (o_t rfl) (lt rfl)) ?_
    refine r_nil (k_seq ?_)
    refine t_seq ?_
    refine t_reg ?_
    refine st (l_move (o_t rfl) (lt rfl)) ?_
    refine st (l_assign (o_t rfl) (lt rfl)) ?_
    refine r_nil (k_seq ?_)
    cases hp_
    exact t_ret (k_ret () rfl rfl rfl rfl rfl)
-- pointsman/pointsmanlaw01.HeadsSize
theorem ok9 (l : List aHead) (y_ : Int) (hp_ : pointsmanlaw01_HeadsSize l = some y_) : FP Tryz.prog 9 [⟨vSlice k_aHead, l⟩] (vInt .i64) y_ := by
  unfold pointsmanlaw01_HeadsSize at hp_
  refine fc_of 25 Tryz.func9 rfl fn9 rfl (Nat.le_of_ble_eq_true rfl) fun I_ w_ F_ => ?_
  refine t_seq ?_
  refine t_reg ?_
  refine st (l_assign (o_i) (lt rfl)) ?_
  refine r_nil (k_seq ?_)
  refine t_seq ?_
  refine t_reg ?_
  refine st (l_move (o_t rfl) (lt rfl)) ?_
  refine st (l_lens (o_t rfl) sl23 (lt rfl)) ?_
  refine st (l_assign (o_t rfl) (lt rfl)) ?_
  refine r_nil (k_seq ?_)
  refine t_seq ?_
  refine t_seq ?_
  refine t_reg ?_
  refine st (l_assign (o_i) (lt rfl)) ?_
  refine r_nil (k_seq ?_)
  obtain ⟨res1_, hl1_0, hx1_⟩ := bs hp_
  clear hp_
  refine t_sub (Γ' := [⟨3, vInt .i64, (l.length : Int)⟩, ⟨4, vInt .i64, (0 : Int)⟩, ⟨0, vSlice k_aHead, l⟩]) (Sub.cons rfl (Sub.cons rfl (Sub.cons rfl (Sub.nil _)))) ?_
  refine t_bloop (β := Nat × Int × Int) (σ := Int) (fun x_ => [⟨3, vInt .i64, x_.2.1⟩, ⟨4, vInt .i64, x_.2.2⟩, ⟨0, vSlice k_aHead, l⟩]) (fun x_ => []) (fun x_ => pointsmanlaw01_HeadsSize.l1 x_.1 l x_.2.1 x_.2.2 = some res1_) (fun x_ => x_.1) (fun x_ => [⟨3, vInt .i64, x_⟩]) (fun x_ => []) (fun x_ => res1_ = x_) ?_ ?_ ((((l.length : Int) - (0 : Int)).toNat + 1), (l.length : Int), (0 : Int)) hl1_0
  · rintro ⟨k1_, v3_1, v4_1⟩ hl1_
    rcases k1_ with _ | k1_
    · exact absurd (show none = some res1_ from hl1_) (by simp)
    replace hl1_ : pointsmanlaw01_HeadsSize.l1 (k1_ + 1) l v3_1 v4_1 = some res1_ := hl1_
    rw [pointsmanlaw01_HeadsSize.l1.eq_2] at hl1_
    show Tr Tryz.prog _ [⟨3, vInt .i64, v3_1⟩, ⟨4, vInt .i64, v4_1⟩, ⟨0, vSlice k_aHead, l⟩] [] _ _
    refine t_seq ?_
    refine t_seq ?_
    refine t_reg ?_
    refine st (l_move (o_t rfl) (lt rfl)) ?_
    refine st (l_move (o_t rfl) (lt rfl)) ?_
    refine st (l_lens (o_t rfl) sl23 (lt rfl)) ?_
    refine st (l_cmp (o_t rfl) (o_t rfl) .lss (lt rfl)) ?_
    refine st (l_move (o_t rfl) (lt rfl)) ?_
    rcases bt (decide (v4_1 < (l.length : Int))) with hb1 | hb1
    · rw [if_neg (nt hb1)] at hl1_
      refine g_n ⟨11, vBool, decide (v4_1 < (l.length : Int))⟩ rfl rfl (noy_b (b := true) hb1) (lt rfl) ?_
      refine g_n ⟨11, vBool, decide (v4_1 < (l.length : Int))⟩ rfl rfl (noy_b (b := true) hb1) (lt rfl) ?_
      refine st (l_pickf (o_t rfl) hb1 (o_b) (lt rfl)) ?_
      refine r_nil (k_seq ?_)
      refine t_iff (o_t rfl) rfl ?_
      exact t_exit (k_te <| k_te <| k_be <| k_brk v3_1 (Option.some.inj hl1_).symm (Sub.cons rfl (Sub.nil _)) rfl)
    · rw [if_pos hb1] at hl1_
      refine g_t rfl rfl hb1 ?_
      refine st (l_move (o_t rfl) (lt rfl)) ?_
      refine g_t rfl rfl hb1 ?_
      refine st (l_cmp (o_t rfl) (o_i) .leq (lt rfl)) ?_
      refine st (l_pickt (o_t rfl) hb1 (o_t rfl) (lt rfl)) ?_
      refine r_nil (k_seq ?_)
      rcases bt (decide (v3_1 ≤ (1048576 : Int))) with hb2 | hb2
      · rw [if_neg (nt hb2)] at hl1_
        refine t_iff (o_t rfl) hb2 ?_
        exact t_exit (k_te <| k_te <| k_be <| k_brk v3_1 (Option.some.inj hl1_).symm (Sub.cons rfl (Sub.nil _)) rfl)
      · rw [if_pos hb2] at hl1_
        refine t_ift (o_t rfl) hb2 ?_
        refine t_skip (k_seq ?_)
        refine t_seq ?_
        refine t_blk ?_
        refine t_reg ?_
        refine st (l_move (o_t rfl) (lt rfl)) ?_
        refine st (l_move (o_t rfl) (lt rfl)) ?_
        refine st (l_move (o_t rfl) (lt rfl)) ?_
        obtain ⟨t3, h4, hl1_⟩ := bs hl1_
        refine st (l_ia (o_t rfl) (o_t rfl) h4 sl23 sz85 (lt rfl)) ?_
        refine st (l_ld (o_t rfl) ty85 (lt rfl)) ?_
        obtain ⟨t5, h6, hl1_⟩ := bs hl1_
        refine st (l_call (ok37 t3 _ h6) (.cons (o_t rfl) (.nil)) (lt rfl)) ?_
        refine st (l_bin (o_t rfl) (o_t rfl) .add (lt rfl)) ?_
        refine st (l_assign (o_t rfl) (lt rfl)) ?_
        refine r_nil (k_bn <| k_seq ?_)
        refine t_reg ?_
        refine st (l_move (o_t rfl) (lt rfl)) ?_
        refine st (l_bin (o_t rfl) (o_i) .add (lt rfl)) ?_
        refine st (l_assign (o_t rfl) (lt rfl)) ?_
        exact r_nil (k_again (k1_, IntKind.wrap .i64 (v3_1 + t5), IntKind.wrap .i64 (v4_1 + (1 : Int))) hl1_ (Nat.lt_succ_self _) (Sub.cons rfl (Sub.cons rfl (Sub.cons rfl (Sub.nil _)))) rfl)
  · intro s1_ hs1_
    replace hs1_ : s1_ = res1_ := Eq.symm hs1_
    subst hs1_
    have hp_ := hx1_
    clear hx1_
    show Kx _ [⟨3, vInt .i64, s1_⟩] [] _ _
    refine k_seq ?_
    refine t_seq ?_
    refine t_reg ?_
    refine st (l_move (o_t rfl) (lt rfl)) ?_
    refine st (l_assign (o_t rfl) (lt rfl)) ?_
    refine r_nil (k_seq ?_)
    cases hp_
    exact t_ret (k_ret () rfl rfl rfl rfl rfl)
-- pointsman/pointsmanlaw01.InsSize
theorem ok39 (x : aIns) (y_ : Int) (hp_ : pointsmanlaw01_InsSize x = some y_) : FP Tryz.prog 39 [⟨(k_aIns).v, x⟩] (vInt .i64) y_ := by
  unfold pointsmanlaw01_InsSize at hp_
  refine fc_of 12 Tryz.func39 rfl fn39 rfl (Nat.le_of_ble_eq_true rfl) fun I_ w_ F_ => ?_
  refine t_seq ?_
  refine t_reg ?_
  refine st (l_box (o_t rfl) (lt rfl)) ?_
  refine st (l_assign (o_i) (lt rfl)) ?_
  refine r_nil (k_seq ?_)
  refine t_seq ?_
  refine t_reg ?_
  refine st (l_assign (o_i) (lt rfl)) ?_
  refine r_nil (k_seq ?_)
  refine t_seq ?_
  refine t_seq ?_
  refine t_reg ?_
  refine st (l_move (o_t rfl) (lt rfl)) ?_
  refine st (l_cmp (o_t rfl) (o_i) .leq (lt rfl)) ?_
  refine r_nil (k_seq ?_)
  rcases bt (decide ((1 : Int) ≤ (1048576 : Int))) with hb1 | hb1
  · rw [if_neg (nt hb1)] at hp_
    refine t_iff (o_t rfl) hb1 ?_
    refine t_skip (k_seq ?_)
    refine t_seq ?_
    refine t_reg ?_
    refine st (l_move (o_t rfl) (lt rfl)) ?_
    refine st (l_assign (o_t rfl) (lt rfl)) ?_
    refine r_nil (k_seq ?_)
    cases hp_
    exact t_ret (k_ret () rfl rfl rfl rfl rfl)
  · rw [if_pos hb1] at hp_
    refine t_ift (o_t rfl) hb1 ?_
    refine t_reg ?_
    refine st (l_move (o_t rfl) (lt rfl)) ?_
    refine st (l_fa (o_t rfl) fl_aIns_6 fa75_6 (lt rfl)) ?_
    refine st (l_ld (o_t rfl) ty22 (lt rfl)) ?_
    obtain ⟨t2, h3, hp_⟩ := bs hp_
    refine st (l_call (ok8 x.L _ h3) (.cons (o_t rfl) (.nil)) (lt rfl)) ?_
    refine st (l_bin (o_t rfl) (o_t rfl) .add (lt rfl)) ?_
    refine st (l_assign (o_t rfl) (lt rfl)) ?_
    refine r_nil (k_seq ?_)
    refine t_seq ?_
    refine t_reg ?_
    refine st (l_move (o_t rfl) (lt rfl)) ?_
    refine st (l_assign (o_t rfl) (lt rfl)) ?_
    refine r_nil (k_seq ?_)
    cases hp_
    exact t_ret (k_ret () rfl rfl rfl rfl rfl)
-- pointsman/pointsmanlaw01.InsesSize
theorem ok11 (l : List aIns) (y_ : Int) (hp_ : pointsmanlaw01_InsesSize l = some y_) : FP Tryz.prog 11 [⟨vSlice k_aIns, l⟩] (vInt .i64) y_ := by
  unfold pointsmanlaw01_InsesSize at hp_
  refine fc_of 25 Tryz.func11 rfl fn11 rfl (Nat.le_of_ble_eq_true rfl) fun I_ w_ F_ => ?_
  refine t_seq ?_
  refine t_reg ?_
  refine st (l_assign (o_i) (lt rfl)) ?_
  refine r_nil (k_seq ?_)
  refine t_seq ?_
  refine t_reg ?_
  refine st (l_move (o_t rfl) (lt rfl)) ?_
  refine st (l_lens (o_t rfl) sl25 (lt rfl)) ?_
  refine st (l_assign (o_t rfl) (lt rfl)) ?_
  refine r_nil (k_seq ?_)
  refine t_seq ?_
  refine t_seq ?_
  refine t_reg ?_
  refine st (l_assign (o_i) (lt rfl)) ?_
  refine r_nil (k_seq ?_)
  obtain ⟨res1_, hl1_0, hx1_⟩ := bs hp_
  clear hp_
  refine t_sub (Γ' := [⟨3, vInt .i64, (l.length : Int)⟩, ⟨4, vInt .i64, (0 : Int)⟩, ⟨0, vSlice k_aIns, l⟩]) (Sub.cons rfl (Sub.cons rfl (Sub.cons rfl (Sub.nil _)))) ?_
  refine t_bloop (β := Nat × Int × Int) (σ := Int) (fun x_ => [⟨3, vInt .i64, x_.2.1⟩, ⟨4, vInt .i64, x_.2.2⟩, ⟨0, vSlice k_aIns, l⟩]) (fun x_ => []) (fun x_ => pointsmanlaw01_InsesSize.l1 x_.1 l x_.2.1 x_.2.2 = some res1_) (fun x_ => x_.1) (fun x_ => [⟨3, vInt .i64, x_⟩]) (fun x_ => []) (fun x_ => res1_ = x_) ?_ ?_ ((((l.length : Int) - (0 : Int)).toNat + 1), (l.length : Int), (0 : Int)) hl1_0
  · rintro ⟨k1_, v3_1, v4_1⟩ hl1_
    rcases k1_ with _ | k1_
    · exact absurd (show none = some res1_ from hl1_) (by simp)
    replace hl1_ : pointsmanlaw01_InsesSize.l1 (k1_ + 1) l v3_1 v4_1 = some res1_ := hl1_
    rw [pointsmanlaw01_InsesSize.l1.eq_2] at hl1_
    show Tr Tryz.prog _ [⟨3, vInt .i64, v3_1⟩, ⟨4, vInt .i64, v4_1⟩, ⟨0, vSlice k_aIns, l⟩] [] _ _
    refine t_seq ?_
    refine t_seq ?_
    refine t_reg ?_
    refine st (l_move (o_t rfl) (lt rfl)) ?_
    refine st (l_move (o_t rfl) (lt rfl)) ?_
    refine st (l_lens (o_t rfl) sl25 (lt rfl)) ?_
    refine st (l_cmp (o_t rfl) (o_t rfl) .lss (lt rfl)) ?_
    refine st (l_move (o_t rfl) (lt rfl)) ?_
    rcases bt (decide (v4_1 < (l.length : Int))) with hb1 | hb1
    · rw [if_neg (nt hb1)] at hl1_
      refine g_n ⟨11, vBool, decide (v4_1 < (l.length : Int))⟩ rfl rfl (noy_b (b := true) hb1) (lt rfl) ?_
      refine g_n ⟨11, vBool, decide (v4_1 < (l.length : Int))⟩ rfl rfl (noy_b (b := true) hb1) (lt rfl) ?_
      refine st (l_pickf (o_t rfl) hb1 (o_b) (lt rfl)) ?_
      refine r_nil (k_seq ?_)
      refine t_iff (o_t rfl) rfl ?_
      exact t_exit (k_te <| k_te <| k_be <| k_brk v3_1 (Option.some.inj hl1_).symm (Sub.cons rfl (Sub.nil _)) rfl)
    · rw [if_pos hb1] at hl1_
      refine g_t rfl rfl hb1 ?_
      refine st (l_move (o_t rfl) (lt rfl)) ?_
      refine g_t rfl rfl hb1 ?_
      refine st (l_cmp (o_t rfl) (o_i) .leq (lt rfl)) ?_
      refine st (l_pickt (o_t rfl) hb1 (o_t rfl) (lt rfl)) ?_
      refine r_nil (k_seq ?_)
      rcases bt (decide (v3_1 ≤ (1048576 : Int))) with hb2 | hb2
      · rw [if_neg (nt hb2)] at hl1_
        refine t_iff (o_t rfl) hb2 ?_
        exact t_exit (k_te <| k_te <| k_be <| k_brk v3_1 (Option.some.inj hl1_).symm (Sub.cons rfl (Sub.nil _)) rfl)
      · rw [if_pos hb2] at hl1_
        refine t_ift (o_t rfl) hb2 ?_
        refine t_skip (k_seq ?_)
        refine t_seq ?_
        refine t_blk ?_
        refine t_reg ?_
        refine st (l_move (o_t rfl) (lt rfl)) ?_
        refine st (l_move (o_t rfl) (lt rfl)) ?_
        refine st (l_move (o_t rfl) (lt rfl)) ?_
        obtain ⟨t3, h4, hl1_⟩ := bs hl1_
        refine st (l_ia (o_t rfl) (o_t rfl) h4 sl25 sz75 (lt rfl)) ?_
        refine st (l_ld (o_t rfl) ty75 (lt rfl)) ?_
        obtain ⟨t5, h6, hl1_⟩ := bs hl1_
        refine st (l_call (ok39 t3 _ h6) (.cons (o_t rfl) (.nil)) (lt rfl)) ?_
        refine st (l_bin (o_t rfl) (o_t rfl) .add (lt rfl)) ?_
        refine st (l_assign (o_t rfl) (lt rfl)) ?_
        refine r_nil (k_bn <| k_seq ?_)
        refine t_reg ?_
        refine st (l_move (o_t rfl) (lt rfl)) ?_
        refine st (l_bin (o_t rfl) (o_i) .add (lt rfl)) ?_
        refine st (l_assign (o_t rfl) (lt rfl)) ?_
        exact r_nil (k_again (k1_, IntKind.wrap .i64 (v3_1 + t5), IntKind.wrap .i64 (v4_1 + (1 : Int))) hl1_ (Nat.lt_succ_self _) (Sub.cons rfl (Sub.cons rfl (Sub.cons rfl (Sub.nil _)))) rfl)
  · intro s1_ hs1_
    replace hs1_ : s1_ = res1_ := Eq.symm hs1_
    subst hs1_
    have hp_ := hx1_
    clear hx1_
    show Kx _ [⟨3, vInt .i64, s1_⟩] [] _ _
    refine k_seq ?_
    refine t_seq ?_
    refine t_reg ?_
    refine st (l_move (o_t rfl) (lt rfl)) ?_
    refine st (l_assign (o_t rfl) (lt rfl)) ?_
    refine r_nil (k_seq ?_)
    cases hp_
    exact t_ret (k_ret () rfl rfl rfl rfl rfl)
-- pointsman/pointsmanlaw01.JumpsSize
theorem ok72 (l : List aJump) (y_ : Int) (hp_ : pointsmanlaw01_JumpsSize l = some y_) : FP Tryz.prog 72 [⟨vSlice k_aJump, l⟩] (vInt .i64) y_ := by
  unfold pointsmanlaw01_JumpsSize at hp_
  refine fc_of 5 Tryz.func72 rfl fn72 rfl (Nat.le_of_ble_eq_true rfl) fun I_ w_ F_ => ?_
  refine t_seq ?_
  refine t_reg ?_
  refine st (l_assign (o_i) (lt rfl)) ?_
  refine r_nil (k_seq ?_)
  refine t_seq ?_
  refine t_reg ?_
  refine st (l_move (o_t rfl) (lt rfl)) ?_
  refine st (l_lens (o_t rfl) sl52 (lt rfl)) ?_
  refine st (l_assign (o_t rfl) (lt rfl)) ?_
  refine r_nil (k_seq ?_)
  cases hp_
  exact t_ret (k_ret () rfl rfl rfl rfl rfl)
-- pointsman/pointsmanlaw01.NodeSize
theorem ok38 (x : aNode) (y_ : Int) (hp_ : pointsmanlaw01_NodeSize x = some y_) : FP Tryz.prog 38 [⟨(k_aNode).v, x⟩] (vInt .i64) y_ := by
  unfold pointsmanlaw01_NodeSize at hp_
  refine fc_of 26 Tryz.func38 rfl fn38 rfl (Nat.le_of_ble_eq_true rfl) fun I_ w_ F_ => ?_
  refine t_seq ?_
  refine t_reg ?_
  refine st (l_box (o_t rfl) (lt rfl)) ?_
  refine st (l_assign (o_i) (lt rfl)) ?_
  refine r_nil (k_seq ?_)
  refine t_seq ?_
  refine t_reg ?_
  refine st (l_assign (o_i) (lt rfl)) ?_
  refine r_nil (k_seq ?_)
  refine t_seq ?_
  refine t_seq ?_
  refine t_reg ?_
  refine st (l_move (o_t rfl) (lt rfl)) ?_
  refine st (l_cmp (o_t rfl) (o_i) .leq (lt rfl)) ?_
  refine r_nil (k_seq ?_)
  obtain ⟨res1_, hl1_, hx1_⟩ := bs hp_
  clear hp_
  refine t_join (σ := Int) (fun x_ => [⟨1, vPtr k_aNode, x⟩, ⟨3, vInt .i64, x_⟩]) (fun x_ => []) (fun x_ => res1_ = x_) ?_ ?_
  · skip
    rcases bt (decide ((1 : Int) ≤ (1048576 : Int))) with hb1 | hb1
    · rw [if_neg (nt hb1)] at hl1_
      refine t_iff (o_t rfl) hb1 ?_
      exact t_skip (k_brk (1 : Int) (Option.some.inj hl1_).symm (Sub.cons rfl (Sub.cons rfl (Sub.nil _))) rfl)
    · rw [if_pos hb1] at hl1_
      refine t_ift (o_t rfl) hb1 ?_
      refine t_reg ?_
      refine st (l_move (o_t rfl) (lt rfl)) ?_
      refine st (l_fa (o_t rfl) fl_aNode_0 fa54_0 (lt rfl)) ?_
      refine st (l_ld (o_t rfl) ty22 (lt rfl)) ?_
      obtain ⟨t2, h3, hl1_⟩ := bs hl1_
      refine st (l_call (ok8 x.Heads _ h3) (.cons (o_t rfl) (.nil)) (lt rfl)) ?_
      refine st (l_bin (o_t rfl) (o_t rfl) .add (lt rfl)) ?_
      refine st (l_assign (o_t rfl) (lt rfl)) ?_
      exact r_nil (k_brk (IntKind.wrap .i64 ((1 : Int) + t2)) (Option.some.inj hl1_).symm (Sub.cons rfl (Sub.cons rfl (Sub.nil _))) rfl)
  · intro s1_ hs1_
    replace hs1_ : s1_ = res1_ := Eq.symm hs1_
    subst hs1_
    have hp_ := hx1_
    clear hx1_
    show Kx _ [⟨1, vPtr k_aNode, x⟩, ⟨3, vInt .i64, s1_⟩] [] _ _
    refine k_seq ?_
    refine t_seq ?_
    refine t_seq ?_
    refine t_reg ?_
    refine st (l_move (o_t rfl) (lt rfl)) ?_
    refine st (l_cmp (o_t rfl) (o_i) .leq (lt rfl)) ?_
    refine r_nil (k_seq ?_)
    obtain ⟨res2_, hl2_, hx2_⟩ := bs hp_
    clear hp_
    refine t_join (σ := Int) (fun x_ => [⟨1, vPtr k_aNode, x⟩, ⟨3, vInt .i64, x_⟩]) (fun x_ => []) (fun x_ => res2_ = x_) ?_ ?_
    · skip
      rcases bt (decide (s1_ ≤ (1048576 : Int))) with hb4 | hb4
      · rw [if_neg (nt hb4)] at hl2_
        refine t_iff (o_t rfl) hb4 ?_
        exact t_skip (k_brk s1_ (Option.some.inj hl2_).symm (Sub.cons rfl (Sub.cons rfl (Sub.nil _))) rfl)
      · rw [if_pos hb4] at hl2_
        refine t_ift (o_t rfl) hb4 ?_
        refine t_reg ?_
        refine st (l_move (o_t rfl) (lt rfl)) ?_
        refine st (l_fa (o_t rfl) fl_aNode_1 fa54_1 (lt rfl)) ?_
        refine st (l_ld (o_t rfl) ty25 (lt rfl)) ?_
        obtain ⟨t5, h6, hl2_⟩ := bs hl2_
        refine st (l_call (ok11 x.Code _ h6) (.cons (o_t rfl) (.nil)) (lt rfl)) ?_
        refine st (l_bin (o_t rfl) (o_t rfl) .add (lt rfl)) ?_
        refine st (l_assign (o_t rfl) (lt rfl)) ?_
        exact r_nil (k_brk (IntKind.wrap .i64 (s1_ + t5)) (Option.some.inj hl2_).symm (Sub.cons rfl (Sub.cons rfl (Sub.nil _))) rfl)
    · intro s2_ hs2_
      replace hs2_ : s2_ = res2_ := Eq.symm hs2_
      subst hs2_
      have hp_ := hx2_
      clear hx2_
      show Kx _ [⟨1, vPtr k_aNode, x⟩, ⟨3, vInt .i64, s2_⟩] [] _ _
      refine k_seq ?_
      refine t_seq ?_
      refine t_seq ?_
      refine t_reg ?_
      refine st (l_move (o_t rfl) (lt rfl)) ?_
      refine st (l_cmp (o_t rfl) (o_i) .leq (lt rfl)) ?_
      refine r_nil (k_seq ?_)
      rcases bt (decide (s2_ ≤ (1048576 : Int))) with hb7 | hb7
      · rw [if_neg (nt hb7)] at hp_
        refine t_iff (o_t rfl) hb7 ?_
        refine t_skip (k_seq ?_)
        refine t_seq ?_
        refine t_reg ?_
        refine st (l_move (o_t rfl) (lt rfl)) ?_
        refine st (l_assign (o_t rfl) (lt rfl)) ?_
        refine r_nil (k_seq ?_)
        cases hp_
        exact t_ret (k_ret () rfl rfl rfl rfl rfl)
      · rw [if_pos hb7] at hp_
        refine t_ift (o_t rfl) hb7 ?_
        refine t_reg ?_
        refine st (l_move (o_t rfl) (lt rfl)) ?_
        refine st (l_fa (o_t rfl) fl_aNode_3 fa54_3 (lt rfl)) ?_
        refine st (l_ld (o_t rfl) ty52 (lt rfl)) ?_
        obtain ⟨t8, h9, hp_⟩ := bs hp_
        refine st (l_call (ok72 x.Cases _ h9) (.cons (o_t rfl) (.nil)) (lt rfl)) ?_
        refine st (l_bin (o_t rfl) (o_t rfl) .add (lt rfl)) ?_
        refine st (l_assign (o_t rfl) (lt rfl)) ?_
        refine r_nil (k_seq ?_)
        refine t_seq ?_
        refine t_reg ?_
        refine st (l_move (o_t rfl) (lt rfl)) ?_
        refine st (l_assign (o_t rfl) (lt rfl)) ?_
        refine r_nil (k_seq ?_)
        cases hp_
        exact t_ret (k_ret () rfl rfl rfl rfl rfl)
-- pointsman/pointsmanlaw01.NodesSize
theorem ok10 (l : List aNode) (y_ : Int) (hp_ : pointsmanlaw01_NodesSize l = some y_) : FP Tryz.prog 10 [⟨vSlice k_aNode, l⟩] (vInt .i64) y_ := by
  unfold pointsmanlaw01_NodesSize at hp_
  refine fc_of 25 Tryz.func10 rfl fn10 rfl (Nat.le_of_ble_eq_true rfl) fun I_ w_ F_ => ?_
  refine t_seq ?_
  refine t_reg ?_
  refine st (l_assign (o_i) (lt rfl)) ?_
  refine r_nil (k_seq ?_)
  refine t_seq ?_
  refine t_reg ?_
  refine st (l_move (o_t rfl) (lt rfl)) ?_
  refine st (l_lens (o_t rfl) sl24 (lt rfl)) ?_
  refine st (l_assign (o_t rfl) (lt rfl)) ?_
  refine r_nil (k_seq ?_)
  refine t_seq ?_
  refine t_seq ?_
  refine t_reg ?_
  refine st (l_assign (o_i) (lt rfl)) ?_
  refine r_nil (k_seq ?_)
  obtain ⟨res1_, hl1_0, hx1_⟩ := bs hp_
  clear hp_
  refine t_sub (Γ' := [⟨3, vInt .i64, (l.length : Int)⟩, ⟨4, vInt .i64, (0 : Int)⟩, ⟨0, vSlice k_aNode, l⟩]) (Sub.cons rfl (Sub.cons rfl (Sub.cons rfl (Sub.nil _)))) ?_
  refine t_bloop (β := Nat × Int × Int) (σ := Int) (fun x_ => [⟨3, vInt .i64, x_.2.1⟩, ⟨4, vInt .i64, x_.2.2⟩, ⟨0, vSlice k_aNode, l⟩]) (fun x_ => []) (fun x_ => pointsmanlaw01_NodesSize.l1 x_.1 l x_.2.1 x_.2.2 = some res1_) (fun x_ => x_.1) (fun x_ => [⟨3, vInt .i64, x_⟩]) (fun x_ => []) (fun x_ => res1_ = x_) ?_ ?_ ((((l.length : Int) - (0 : Int)).toNat + 1), (l.length : Int), (0 : Int)) hl1_0
  · rintro ⟨k1_, v3_1, v4_1⟩ hl1_
    rcases k1_ with _ | k1_
    · exact absurd (show none = some res1_ from hl1_) (by simp)
    replace hl1_ : pointsmanlaw01_NodesSize.l1 (k1_ + 1) l v3_1 v4_1 = some res1_ := hl1_
    rw [pointsmanlaw01_NodesSize.l1.eq_2] at hl1_
    show Tr Tryz.prog _ [⟨3, vInt .i64, v3_1⟩, ⟨4, vInt .i64, v4_1⟩, ⟨0, vSlice k_aNode, l⟩] [] _ _
    refine t_seq ?_
    refine t_seq ?_
    refine t_reg ?_
    refine st (l_move (o_t rfl) (lt rfl)) ?_
    refine st (l_move (o_t rfl) (lt rfl)) ?_
    refine st (l_lens (o_t rfl) sl24 (lt rfl)) ?_
    refine st (l_cmp (o_t rfl) (o_t rfl) .lss (lt rfl)) ?_
    refine st (l_move (o_t rfl) (lt rfl)) ?_
    rcases bt (decide (v4_1 < (l.length : Int))) with hb1 | hb1
    · rw [if_neg (nt hb1)] at hl1_
      refine g_n ⟨11, vBool, decide (v4_1 < (l.length : Int))⟩ rfl rfl (noy_b (b := true) hb1) (lt rfl) ?_
      refine g_n ⟨11, vBool, decide (v4_1 < (l.length : Int))⟩ rfl rfl (noy_b (b := true) hb1) (lt rfl) ?_
      refine st (l_pickf (o_t rfl) hb1 (o_b) (lt rfl)) ?_
      refine r_nil (k_seq ?_)
      refine t_iff (o_t rfl) rfl ?_
      exact t_exit (k_te <| k_te <| k_be <| k_brk v3_1 (Option.some.inj hl1_).symm (Sub.cons rfl (Sub.nil _)) rfl)
    · rw [if_pos hb1] at hl1_
      refine g_t rfl rfl hb1 ?_
      refine st (l_move (o_t rfl) (lt rfl)) ?_
      refine g_t rfl rfl hb1 ?_
      refine st (l_cmp (o_t rfl) (o_i) .leq (lt rfl)) ?_
      refine st (l_pickt (o_t rfl) hb1 (o_t rfl) (lt rfl)) ?_
      refine r_nil (k_seq ?_)
      rcases bt (decide (v3_1 ≤ (1048576 : Int))) with hb2 | hb2
      · rw [if_neg (nt hb2)] at hl1_
        refine t_iff (o_t rfl) hb2 ?_
        exact t_exit (k_te <| k_te <| k_be <| k_brk v3_1 (Option.some.inj hl1_).symm (Sub.cons rfl (Sub.nil _)) rfl)
      · rw [if_pos hb2] at hl1_
        refine t_ift (o_t rfl) hb2 ?_
        refine t_skip (k_seq ?_)
        refine t_seq ?_
        refine t_blk ?_
        refine t_reg ?_
        refine st (l_move (o_t rfl) (lt rfl)) ?_
        refine st (l_move (o_t rfl) (lt rfl)) ?_
        refine st (l_move (o_t rfl) (lt rfl)) ?_
        obtain ⟨t3, h4, hl1_⟩ := bs hl1_
        refine st (l_ia (o_t rfl) (o_t rfl) h4 sl24 sz54 (lt rfl)) ?_
        refine st (l_ld (o_t rfl) ty54 (lt rfl)) ?_
        obtain ⟨t5, h6, hl1_⟩ := bs hl1_
        refine st (l_call (ok38 t3 _ h6) (.cons (o_t rfl) (.nil)) (lt rfl)) ?_
        refine st (l_bin (o_t rfl) (o_t rfl) .add (lt rfl)) ?_
        refine st (l_assign (o_t rfl) (lt rfl)) ?_
        refine r_nil (k_bn <| k_seq ?_)
        refine t_reg ?_
        refine st (l_move (o_t rfl) (lt rfl)) ?_
        refine st (l_bin (o_t rfl) (o_i) .add (lt rfl)) ?_
        refine st (l_assign (o_t rfl) (lt rfl)) ?_
        exact r_nil (k_again (k1_, IntKind.wrap .i64 (v3_1 + t5), IntKind.wrap .i64 (v4_1 + (1 : Int))) hl1_ (Nat.lt_succ_self _) (Sub.cons rfl (Sub.cons rfl (Sub.cons rfl (Sub.nil _)))) rfl)
  · intro s1_ hs1_
    replace hs1_ : s1_ = res1_ := Eq.symm hs1_
    subst hs1_
    have hp_ := hx1_
    clear hx1_
    show Kx _ [⟨3, vInt .i64, s1_⟩] [] _ _
    refine k_seq ?_
    refine t_seq ?_
    refine t_reg ?_
    refine st (l_move (o_t rfl) (lt rfl)) ?_
    refine st (l_assign (o_t rfl) (lt rfl)) ?_
    refine r_nil (k_seq ?_)
    cases hp_
    exact t_ret (k_ret () rfl rfl rfl rfl rfl)
-- pointsman/pointsmanlaw01.ActSize
theorem ok40 (x : aAct) (y_ : Int) (hp_ : pointsmanlaw01_ActSize x = some y_) : FP Tryz.prog 40 [⟨(k_aAct).v, x⟩] (vInt .i64) y_ := by
  unfold pointsmanlaw01_ActSize at hp_
  refine fc_of 23 Tryz.func40 rfl fn40 rfl (Nat.le_of_ble_eq_true rfl) fun I_ w_ F_ => ?_
  refine t_seq ?_
  refine t_reg ?_
  refine st (l_box (o_t rfl) (lt rfl)) ?_
  refine st (l_assign (o_i) (lt rfl)) ?_
  refine r_nil (k_seq ?_)
  refine t_seq ?_
  refine t_reg ?_
  refine st (l_fa (o_t rfl) fl_aAct_0 fa41_0 (lt rfl)) ?_
  refine st (l_ld (o_t rfl) ty9 (lt rfl)) ?_
  refine st (l_lenstr (o_t rfl) str9 (lt rfl)) ?_
  refine st (l_bin (o_i) (o_t rfl) .add (lt rfl)) ?_
  refine st (l_assign (o_t rfl) (lt rfl)) ?_
  refine r_nil (k_seq ?_)
  refine t_seq ?_
  refine t_seq ?_
  refine t_reg ?_
  refine st (l_move (o_t rfl) (lt rfl)) ?_
  refine st (l_cmp (o_t rfl) (o_i) .leq (lt rfl)) ?_
  refine r_nil (k_seq ?_)
  obtain ⟨res1_, hl1_, hx1_⟩ := bs hp_
  clear hp_
  refine t_join (σ := Int) (fun x_ => [⟨1, vPtr k_aAct, x⟩, ⟨3, vInt .i64, x_⟩]) (fun x_ => []) (fun x_ => res1_ = x_) ?_ ?_
  · skip
    rcases bt (decide ((IntKind.wrap .i64 ((1 : Int) + (x.Name.size : Int))) ≤ (1048576 : Int))) with hb1 | hb1
    · rw [if_neg (nt hb1)] at hl1_
      refine t_iff (o_t rfl) hb1 ?_
      exact t_skip (k_brk (IntKind.wrap .i64 ((1 : Int) + (x.Name.size : Int))) (Option.some.inj hl1_).symm (Sub.cons rfl (Sub.cons rfl (Sub.nil _))) rfl)
    · rw [if_pos hb1] at hl1_
      refine t_ift (o_t rfl) hb1 ?_
      refine t_reg ?_
      refine st (l_move (o_t rfl) (lt rfl)) ?_
      refine st (l_fa (o_t rfl) fl_aAct_1 fa41_1 (lt rfl)) ?_
      refine st (l_ld (o_t rfl) ty22 (lt rfl)) ?_
      obtain ⟨t2, h3, hl1_⟩ := bs hl1_
      refine st (l_call (ok8 x.Params _ h3) (.cons (o_t rfl) (.nil)) (lt rfl)) ?_
      refine st (l_bin (o_t rfl) (o_t rfl) .add (lt rfl)) ?_
      refine st (l_assign (o_t rfl) (lt rfl)) ?_
      exact r_nil (k_brk (IntKind.wrap .i64 ((IntKind.wrap .i64 ((1 : Int) + (x.Name.size : Int))) + t2)) (Option.some.inj hl1_).symm (Sub.cons rfl (Sub.cons rfl (Sub.nil _))) rfl)
  · intro s1_ hs1_
    replace hs1_ : s1_ = res1_ := Eq.symm hs1_
    subst hs1_
    have hp_ := hx1_
    clear hx1_
    show Kx _ [⟨1, vPtr k_aAct, x⟩, ⟨3, vInt .i64, s1_⟩] [] _ _
    refine k_seq ?_
    refine t_seq ?_
    refine t_seq ?_
    refine t_reg ?_
    refine st (l_move (o_t rfl) (lt rfl)) ?_
    refine st (l_cmp (o_t rfl) (o_i) .leq (lt rfl)) ?_
    refine r_nil (k_seq ?_)
    rcases bt (decide (s1_ ≤ (1048576 : Int))) with hb4 | hb4
    · rw [if_neg (nt hb4)] at hp_
      refine t_iff (o_t rfl) hb4 ?_
      refine t_skip (k_seq ?_)
      refine t_seq ?_
      refine t_reg ?_
      refine st (l_move (o_t rfl) (lt rfl)) ?_
      refine st (l_assign (o_t rfl) (lt rfl)) ?_
      refine r_nil (k_seq ?_)
      cases hp_
      exact t_ret (k_ret () rfl rfl rfl rfl rfl)
    · rw [if_pos hb4] at hp_
      refine t_ift (o_t rfl) hb4 ?_
      refine t_reg ?_
      refine st (l_move (o_t rfl) (lt rfl)) ?_
      refine st (l_fa (o_t rfl) fl_aAct_2 fa41_2 (lt rfl)) ?_
      refine st (l_ld (o_t rfl) ty25 (lt rfl)) ?_
      obtain ⟨t5, h6, hp_⟩ := bs hp_
      refine st (l_call (ok11 x.Code _ h6) (.cons (o_t rfl) (.nil)) (lt rfl)) ?_
      refine st (l_bin (o_t rfl) (o_t rfl) .add (lt rfl)) ?_
      refine st (l_assign (o_t rfl) (lt rfl)) ?_
      refine r_nil (k_seq ?_)
      refine t_seq ?_
      refine t_reg ?_
      refine st (l_move (o_t rfl) (lt rfl)) ?_
      refine st (l_assign (o_t rfl) (lt rfl)) ?_
      refine r_nil (k_seq ?_)
      cases hp_
      exact t_ret (k_ret () rfl rfl rfl rfl rfl)
-- pointsman/pointsmanlaw01.ActsSize
theorem ok12 (l : List aAct) (y_ : Int) (hp_ : pointsmanlaw01_ActsSize l = some y_) : FP Tryz.prog 12 [⟨vSlice k_aAct, l⟩] (vInt .i64) y_ := by
  unfold pointsmanlaw01_ActsSize at hp_
  refine fc_of 25 Tryz.func12 rfl fn12 rfl (Nat.le_of_ble_eq_true rfl) fun I_ w_ F_ => ?_
  refine t_seq ?_
  refine t_reg ?_
  refine st (l_assign (o_i) (lt rfl)) ?_
  refine r_nil (k_seq ?_)
  refine t_seq ?_
  refine t_reg ?_
  refine st (l_move (o_t rfl) (lt rfl)) ?_
  refine st (l_lens (o_t rfl) sl26 (lt rfl)) ?_
  refine st (l_assign (o_t rfl) (lt rfl)) ?_
  refine r_nil (k_seq ?_)
  refine t_seq ?_
  refine t_seq ?_
  refine t_reg ?_
  refine st (l_assign (o_i) (lt rfl)) ?_
  refine r_nil (k_seq ?_)
  obtain ⟨res1_, hl1_0, hx1_⟩ := bs hp_
  clear hp_
  refine t_sub (Γ' := [⟨3, vInt .i64, (l.length : Int)⟩, ⟨4, vInt .i64, (0 : Int)⟩, ⟨0, vSlice k_aAct, l⟩]) (Sub.cons rfl (Sub.cons rfl (Sub.cons rfl (Sub.nil _)))) ?_
  refine t_bloop (β := Nat × Int × Int) (σ := Int) (fun x_ => [⟨3, vInt .i64, x_.2.1⟩, ⟨4, vInt .i64, x_.2.2⟩, ⟨0, vSlice k_aAct, l⟩]) (fun x_ => []) (fun x_ => pointsmanlaw01_ActsSize.l1 x_.1 l x_.2.1 x_.2.2 = some res1_) (fun x_ => x_.1) (fun x_ => [⟨3, vInt .i64, x_⟩]) (fun x_ => []) (fun x_ => res1_ = x_) ?_ ?_ ((((l.length : Int) - (0 : Int)).toNat + 1), (l.length : Int), (0 : Int)) hl1_0
  · rintro ⟨k1_, v3_1, v4_1⟩ hl1_
    rcases k1_ with _ | k1_
    · exact absurd (show none = some res1_ from hl1_) (by simp)
    replace hl1_ : pointsmanlaw01_ActsSize.l1 (k1_ + 1) l v3_1 v4_1 = some res1_ := hl1_
    rw [pointsmanlaw01_ActsSize.l1.eq_2] at hl1_
    show Tr Tryz.prog _ [⟨3, vInt .i64, v3_1⟩, ⟨4, vInt .i64, v4_1⟩, ⟨0, vSlice k_aAct, l⟩] [] _ _
    refine t_seq ?_
    refine t_seq ?_
    refine t_reg ?_
    refine st (l_move (o_t rfl) (lt rfl)) ?_
    refine st (l_move (o_t rfl) (lt rfl)) ?_
    refine st (l_lens (o_t rfl) sl26 (lt rfl)) ?_
    refine st (l_cmp (o_t rfl) (o_t rfl) .lss (lt rfl)) ?_
    refine st (l_move (o_t rfl) (lt rfl)) ?_
    rcases bt (decide (v4_1 < (l.length : Int))) with hb1 | hb1
    · rw [if_neg (nt hb1)] at hl1_
      refine g_n ⟨11, vBool, decide (v4_1 < (l.length : Int))⟩ rfl rfl (noy_b (b := true) hb1) (lt rfl) ?_
      refine g_n ⟨11, vBool, decide (v4_1 < (l.length : Int))⟩ rfl rfl (noy_b (b := true) hb1) (lt rfl) ?_
      refine st (l_pickf (o_t rfl) hb1 (o_b) (lt rfl)) ?_
      refine r_nil (k_seq ?_)
      refine t_iff (o_t rfl) rfl ?_
      exact t_exit (k_te <| k_te <| k_be <| k_brk v3_1 (Option.some.inj hl1_).symm (Sub.cons rfl (Sub.nil _)) rfl)
    · rw [if_pos hb1] at hl1_
      refine g_t rfl rfl hb1 ?_
      refine st (l_move (o_t rfl) (lt rfl)) ?_
      refine g_t rfl rfl hb1 ?_
      refine st (l_cmp (o_t rfl) (o_i) .leq (lt rfl)) ?_
      refine st (l_pickt (o_t rfl) hb1 (o_t rfl) (lt rfl)) ?_
      refine r_nil (k_seq ?_)
      rcases bt (decide (v3_1 ≤ (1048576 : Int))) with hb2 | hb2
      · rw [if_neg (nt hb2)] at hl1_
        refine t_iff (o_t rfl) hb2 ?_
        exact t_exit (k_te <| k_te <| k_be <| k_brk v3_1 (Option.some.inj hl1_).symm (Sub.cons rfl (Sub.nil _)) rfl)
      · rw [if_pos hb2] at hl1_
        refine t_ift (o_t rfl) hb2 ?_
        refine t_skip (k_seq ?_)
        refine t_seq ?_
        refine t_blk ?_
        refine t_reg ?_
        refine st (l_move (o_t rfl) (lt rfl)) ?_
        refine st (l_move (o_t rfl) (lt rfl)) ?_
        refine st (l_move (o_t rfl) (lt rfl)) ?_
        obtain ⟨t3, h4, hl1_⟩ := bs hl1_
        refine st (l_ia (o_t rfl) (o_t rfl) h4 sl26 sz41 (lt rfl)) ?_
        refine st (l_ld (o_t rfl) ty41 (lt rfl)) ?_
        obtain ⟨t5, h6, hl1_⟩ := bs hl1_
        refine st (l_call (ok40 t3 _ h6) (.cons (o_t rfl) (.nil)) (lt rfl)) ?_
        refine st (l_bin (o_t rfl) (o_t rfl) .add (lt rfl)) ?_
        refine st (l_assign (o_t rfl) (lt rfl)) ?_
        refine r_nil (k_bn <| k_seq ?_)
        refine t_reg ?_
        refine st (l_move (o_t rfl) (lt rfl)) ?_
        refine st (l_bin (o_t rfl) (o_i) .add (lt rfl)) ?_
        refine st (l_assign (o_t rfl) (lt rfl)) ?_
        exact r_nil (k_again (k1_, IntKind.wrap .i64 (v3_1 + t5), IntKind.wrap .i64 (v4_1 + (1 : Int))) hl1_ (Nat.lt_succ_self _) (Sub.cons rfl (Sub.cons rfl (Sub.cons rfl (Sub.nil _)))) rfl)
  · intro s1_ hs1_
    replace hs1_ : s1_ = res1_ := Eq.symm hs1_
    subst hs1_
    have hp_ := hx1_
    clear hx1_
    show Kx _ [⟨3, vInt .i64, s1_⟩] [] _ _
    refine k_seq ?_
    refine t_seq ?_
    refine t_reg ?_
    refine st (l_move (o_t rfl) (lt rfl)) ?_
    refine st (l_assign (o_t rfl) (lt rfl)) ?_
    refine r_nil (k_seq ?_)
    cases hp_
    exact t_ret (k_ret () rfl rfl rfl rfl rfl)
-- pointsman/pointsmanlaw01.KindsSize
theorem ok73 (l : List Int) (y_ : Int) (hp_ : pointsmanlaw01_KindsSize l = some y_) : FP Tryz.prog 73 [⟨vSlice (kInt .u8), l⟩] (vInt .i64) y_ := by
  unfold pointsmanlaw01_KindsSize at hp_
  refine fc_of 5 Tryz.func73 rfl fn73 rfl (Nat.le_of_ble_eq_true rfl) fun I_ w_ F_ => ?_
  refine t_seq ?_
  refine t_reg ?_
  refine st (l_assign (o_i) (lt rfl)) ?_
  refine r_nil (k_seq ?_)
  refine t_seq ?_
  refine t_reg ?_
  refine st (l_move (o_t rfl) (lt rfl)) ?_
  refine st (l_lens (o_t rfl) sl36 (lt rfl)) ?_
  refine st (l_assign (o_t rfl) (lt rfl)) ?_
  refine r_nil (k_seq ?_)
  cases hp_
  exact t_ret (k_ret () rfl rfl rfl rfl rfl)
-- pointsman/pointsmanlaw01.NumbersSize
theorem ok74 (l : List aBits) (y_ : Int) (hp_ : pointsmanlaw01_NumbersSize l = some y_) : FP Tryz.prog 74 [⟨vSlice k_aBits, l⟩] (vInt .i64) y_ := by
  unfold pointsmanlaw01_NumbersSize at hp_
  refine fc_of 5 Tryz.func74 rfl fn74 rfl (Nat.le_of_ble_eq_true rfl) fun I_ w_ F_ => ?_
  refine t_seq ?_
  refine t_reg ?_
  refine st (l_assign (o_i) (lt rfl)) ?_
  refine r_nil (k_seq ?_)
  refine t_seq ?_
  refine t_reg ?_
  refine st (l_move (o_t rfl) (lt rfl)) ?_
  refine st (l_lens (o_t rfl) sl37 (lt rfl)) ?_
  refine st (l_assign (o_t rfl) (lt rfl)) ?_
  refine r_nil (k_seq ?_)
  cases hp_
  exact t_ret (k_ret () rfl rfl rfl rfl rfl)
-- pointsman/pointsmanlaw01.TableSize
theorem ok41 (x : aTable) (y_ : Int) (hp_ : pointsmanlaw01_TableSize x = some y_) : FP Tryz.prog 41 [⟨(k_aTable).v, x⟩] (vInt .i64) y_ := by
  unfold pointsmanlaw01_TableSize at hp_
  refine fc_of 44 Tryz.func41 rfl fn41 rfl (Nat.le_of_ble_eq_true rfl) fun I_ w_ F_ => ?_
  refine t_seq ?_
  refine t_reg ?_
  refine st (l_box (o_t rfl) (lt rfl)) ?_
  refine st (l_assign (o_i) (lt rfl)) ?_
  refine r_nil (k_seq ?_)
  refine t_seq ?_
  refine t_reg ?_
  refine st (l_fa (o_t rfl) fl_aTable_0 fa39_0 (lt rfl)) ?_
  refine st (l_ld (o_t rfl) ty9 (lt rfl)) ?_
  refine st (l_lenstr (o_t rfl) str9 (lt rfl)) ?_
  refine st (l_bin (o_i) (o_t rfl) .add (lt rfl)) ?_
  refine st (l_assign (o_t rfl) (lt rfl)) ?_
  refine r_nil (k_seq ?_)
  refine t_seq ?_
  refine t_seq ?_
  refine t_reg ?_
  refine st (l_move (o_t rfl) (lt rfl)) ?_
  refine st (l_cmp (o_t rfl) (o_i) .leq (lt rfl)) ?_
  refine r_nil (k_seq ?_)
  obtain ⟨res1_, hl1_, hx1_⟩ := bs hp_
  clear hp_
  refine t_join (σ := Int) (fun x_ => [⟨1, vPtr k_aTable, x⟩, ⟨3, vInt .i64, x_⟩]) (fun x_ => []) (fun x_ => res1_ = x_) ?_ ?_
  · skip
    rcases bt (decide ((IntKind.wrap .i64 ((1 : Int) + (x.Name.size : Int))) ≤ (1048576 : Int))) with hb1 | hb1
    · rw [if_neg (nt hb1)] at hl1_
      refine t_iff (o_t rfl) hb1 ?_
      exact t_skip (k_brk (IntKind.wrap .i64 ((1 : Int) + (x.Name.size : Int))) (Option.some.inj hl1_).symm (Sub.cons rfl (Sub.cons rfl (Sub.nil _))) rfl)
    · rw [if_pos hb1] at hl1_
      refine t_ift (o_t rfl) hb1 ?_
      refine t_reg ?_
      refine st (l_move (o_t rfl) (lt rfl)) ?_
      refine st (l_fa (o_t rfl) fl_aTable_1 fa39_1 (lt rfl)) ?_
      refine st (l_ld (o_t rfl) ty22 (lt rfl)) ?_
      obtain ⟨t2, h3, hl1_⟩ := bs hl1_
      refine st (l_call (ok8 x.Keys _ h3) (.cons (o_t rfl) (.nil)) (lt rfl)) ?_
      refine st (l_bin (o_t rfl) (o_t rfl) .add (lt rfl)) ?_
      refine st (l_assign (o_t rfl) (lt rfl)) ?_
      exact r_nil (k_brk (IntKind.wrap .i64 ((IntKind.wrap .i64 ((1 : Int) + (x.Name.size : Int))) + t2)) (Option.some.inj hl1_).symm (Sub.cons rfl (Sub.cons rfl (Sub.nil _))) rfl)
  · intro s1_ hs1_
    replace hs1_ : s1_ = res1_ := Eq.symm hs1_
    subst hs1_
    have hp_ := hx1_
    clear hx1_
    show Kx _ [⟨1, vPtr k_aTable, x⟩, ⟨3, vInt .i64, s1_⟩] [] _ _
    refine k_seq ?_
    refine t_seq ?_
    refine t_seq ?_
    refine t_reg ?_
    refine st (l_move (o_t rfl) (lt rfl)) ?_
    refine st (l_cmp (o_t rfl) (o_i) .leq (lt rfl)) ?_
    refine r_nil (k_seq ?_)
    obtain ⟨res2_, hl2_, hx2_⟩ := bs hp_
    clear hp_
    refine t_join (σ := Int) (fun x_ => [⟨1, vPtr k_aTable, x⟩, ⟨3, vInt .i64, x_⟩]) (fun x_ => []) (fun x_ => res2_ = x_) ?_ ?_
    · skip
      rcases bt (decide (s1_ ≤ (1048576 : Int))) with hb4 | hb4
      · rw [if_neg (nt hb4)] at hl2_
        refine t_iff (o_t rfl) hb4 ?_
        exact t_skip (k_brk s1_ (Option.some.inj hl2_).symm (Sub.cons rfl (Sub.cons rfl (Sub.nil _))) rfl)
      · rw [if_pos hb4] at hl2_
        refine t_ift (o_t rfl) hb4 ?_
        refine t_reg ?_
        refine st (l_move (o_t rfl) (lt rfl)) ?_
        refine st (l_fa (o_t rfl) fl_aTable_2 fa39_2 (lt rfl)) ?_
        refine st (l_ld (o_t rfl) ty36 (lt rfl)) ?_
        obtain ⟨t5, h6, hl2_⟩ := bs hl2_
        refine st (l_call (ok73 x.Kinds _ h6) (.cons (o_t rfl) (.nil)) (lt rfl)) ?_
        refine st (l_bin (o_t rfl) (o_t rfl) .add (lt rfl)) ?_
        refine st (l_assign (o_t rfl) (lt rfl)) ?_
        exact r_nil (k_brk (IntKind.wrap .i64 (s1_ + t5)) (Option.some.inj hl2_).symm (Sub.cons rfl (Sub.cons rfl (Sub.nil _))) rfl)
    · intro s2_ hs2_
      replace hs2_ : s2_ = res2_ := Eq.symm hs2_
      subst hs2_
      have hp_ := hx2_
      clear hx2_
      show Kx _ [⟨1, vPtr k_aTable, x⟩, ⟨3, vInt .i64, s2_⟩] [] _ _
      refine k_seq ?_
      refine t_seq ?_
      refine t_seq ?_
      refine t_reg ?_
      refine st (l_move (o_t rfl) (lt rfl)) ?_
      refine st (l_cmp (o_t rfl) (o_i) .leq (lt rfl)) ?_
      refine r_nil (k_seq ?_)
      obtain ⟨res3_, hl3_, hx3_⟩ := bs hp_
      clear hp_
      refine t_join (σ := Int) (fun x_ => [⟨1, vPtr k_aTable, x⟩, ⟨3, vInt .i64, x_⟩]) (fun x_ => []) (fun x_ => res3_ = x_) ?_ ?_
      · skip
        rcases bt (decide (s2_ ≤ (1048576 : Int))) with hb7 | hb7
        · rw [if_neg (nt hb7)] at hl3_
          refine t_iff (o_t rfl) hb7 ?_
          exact t_skip (k_brk s2_ (Option.some.inj hl3_).symm (Sub.cons rfl (Sub.cons rfl (Sub.nil _))) rfl)
        · rw [if_pos hb7] at hl3_
          refine t_ift (o_t rfl) hb7 ?_
          refine t_reg ?_
          refine st (l_move (o_t rfl) (lt rfl)) ?_
          refine st (l_fa (o_t rfl) fl_aTable_3 fa39_3 (lt rfl)) ?_
          refine st (l_ld (o_t rfl) ty22 (lt rfl)) ?_
          obtain ⟨t8, h9, hl3_⟩ := bs hl3_
          refine st (l_call (ok8 x.Actions _ h9) (.cons (o_t rfl) (.nil)) (lt rfl)) ?_
          refine st (l_bin (o_t rfl) (o_t rfl) .add (lt rfl)) ?_
          refine st (l_assign (o_t rfl) (lt rfl)) ?_
          exact r_nil (k_brk (IntKind.wrap .i64 (s2_ + t8)) (Option.some.inj hl3_).symm (Sub.cons rfl (Sub.cons rfl (Sub.nil _))) rfl)
      · intro s3_ hs3_
        replace hs3_ : s3_ = res3_ := Eq.symm hs3_
        subst hs3_
        have hp_ := hx3_
        clear hx3_
        show Kx _ [⟨1, vPtr k_aTable, x⟩, ⟨3, vInt .i64, s3_⟩] [] _ _
        refine k_seq ?_
        refine t_seq ?_
        refine t_seq ?_
        refine t_reg ?_
        refine st (l_move (o_t rfl) (lt rfl)) ?_
        refine st (l_cmp (o_t rfl) (o_i) .leq (lt rfl)) ?_
        refine r_nil (k_seq ?_)
        obtain ⟨res4_, hl4_, hx4_⟩ := bs hp_
        clear hp_
        refine t_join (σ := Int) (fun x_ => [⟨1, vPtr k_aTable, x⟩, ⟨3, vInt .i64, x_⟩]) (fun x_ => []) (fun x_ => res4_ = x_) ?_ ?_
        · skip
          rcases bt (decide (s3_ ≤ (1048576 : Int))) with hb10 | hb10
          · rw [if_neg (nt hb10)] at hl4_
            refine t_iff (o_t rfl) hb10 ?_
            exact t_skip (k_brk s3_ (Option.some.inj hl4_).symm (Sub.cons rfl (Sub.cons rfl (Sub.nil _))) rfl)
          · rw [if_pos hb10] at hl4_
            refine t_ift (o_t rfl) hb10 ?_
            refine t_reg ?_
            refine st (l_move (o_t rfl) (lt rfl)) ?_
            refine st (l_fa (o_t rfl) fl_aTable_5 fa39_5 (lt rfl)) ?_
            refine st (l_ld (o_t rfl) ty37 (lt rfl)) ?_
            obtain ⟨t11, h12, hl4_⟩ := bs hl4_
            refine st (l_call (ok74 x.Args _ h12) (.cons (o_t rfl) (.nil)) (lt rfl)) ?_
            refine st (l_bin (o_t rfl) (o_t rfl) .add (lt rfl)) ?_
            refine st (l_assign (o_t rfl) (lt rfl)) ?_
            exact r_nil (k_brk (IntKind.wrap .i64 (s3_ + t11)) (Option.some.inj hl4_).symm (Sub.cons rfl (Sub.cons rfl (Sub.nil _))) rfl)
        · intro s4_ hs4_
          replace hs4_ : s4_ = res4_ := Eq.symm hs4_
          subst hs4_
          have hp_ := hx4_
          clear hx4_
          show Kx _ [⟨1, vPtr k_aTable, x⟩, ⟨3, vInt .i64, s4_⟩] [] _ _
          refine k_seq ?_
          refine t_seq ?_
          refine t_seq ?_
          refine t_reg ?_
          refine st (l_move (o_t rfl) (lt rfl)) ?_
          refine st (l_cmp (o_t rfl) (o_i) .leq (lt rfl)) ?_
          refine r_nil (k_seq ?_)
          rcases bt (decide (s4_ ≤ (1048576 : Int))) with hb13 | hb13
          · rw [if_neg (nt hb13)] at hp_
            refine t_iff (o_t rfl) hb13 ?_
            refine t_skip (k_seq ?_)
            refine t_seq ?_
            refine t_reg ?_
            refine st (l_move (o_t rfl) (lt rfl)) ?_
            refine st (l_assign (o_t rfl) (lt rfl)) ?_
            refine r_nil (k_seq ?_)
            cases hp_
            exact t_ret (k_ret () rfl rfl rfl rfl rfl)
          · rw [if_pos hb13] at hp_
            refine t_ift (o_t rfl) hb13 ?_
            refine t_reg ?_
            refine st (l_move (o_t rfl) (lt rfl)) ?_
            refine st (l_fa (o_t rfl) fl_aTable_7 fa39_7 (lt rfl)) ?_
            refine st (l_ld (o_t rfl) ty25 (lt rfl)) ?_
            obtain ⟨t14, h15, hp_⟩ := bs hp_
            refine st (l_call (ok11 x.Before _ h15) (.cons (o_t rfl) (.nil)) (lt rfl)) ?_
            refine st (l_bin (o_t rfl) (o_t rfl) .add (lt rfl)) ?_
            refine st (l_assign (o_t rfl) (lt rfl)) ?_
            refine r_nil (k_seq ?_)
            refine t_seq ?_
            refine t_reg ?_
            refine st (l_move (o_t rfl) (lt rfl)) ?_
            refine st (l_assign (o_t rfl) (lt rfl)) ?_
            refine r_nil (k_seq ?_)
            cases hp_
            exact t_ret (k_ret () rfl rfl rfl rfl rfl)
-- pointsman/pointsmanlaw01.TablesSize
theorem ok13 (l : List aTable) (y_ : Int) (hp_ : pointsmanlaw01_TablesSize l = some y_) : FP Tryz.prog 13 [⟨vSlice k_aTable, l⟩] (vInt .i64) y_ := by
  unfold pointsmanlaw01_TablesSize at hp_
  refine fc_of 25 Tryz.func13 rfl fn13 rfl (Nat.le_of_ble_eq_true rfl) fun I_ w_ F_ => ?_
  refine t_seq ?_
  refine t_reg ?_
  refine st (l_assign (o_i) (lt rfl)) ?_
  refine r_nil (k_seq ?_)
  refine t_seq ?_
  refine t_reg ?_
  refine st (l_move (o_t rfl) (lt rfl)) ?_
  refine st (l_lens (o_t rfl) sl27 (lt rfl)) ?_
  refine st (l_assign (o_t rfl) (lt rfl)) ?_
  refine r_nil (k_seq ?_)
  refine t_seq ?_
  refine t_seq ?_
  refine t_reg ?_
  refine st (l_assign (o_i) (lt rfl)) ?_
  refine r_nil (k_seq ?_)
  obtain ⟨res1_, hl1_0, hx1_⟩ := bs hp_
  clear hp_
  refine t_sub (Γ' := [⟨3, vInt .i64, (l.length : Int)⟩, ⟨4, vInt .i64, (0 : Int)⟩, ⟨0, vSlice k_aTable, l⟩]) (Sub.cons rfl (Sub.cons rfl (Sub.cons rfl (Sub.nil _)))) ?_
  refine t_bloop (β := Nat × Int × Int) (σ := Int) (fun x_ => [⟨3, vInt .i64, x_.2.1⟩, ⟨4, vInt .i64, x_.2.2⟩, ⟨0, vSlice k_aTable, l⟩]) (fun x_ => []) (fun x_ => pointsmanlaw01_TablesSize.l1 x_.1 l x_.2.1 x_.2.2 = some res1_) (fun x_ => x_.1) (fun x_ => [⟨3, vInt .i64, x_⟩]) (fun x_ => []) (fun x_ => res1_ = x_) ?_ ?_ ((((l.length : Int) - (0 : Int)).toNat + 1), (l.length : Int), (0 : Int)) hl1_0
  · rintro ⟨k1_, v3_1, v4_1⟩ hl1_
    rcases k1_ with _ | k1_
    · exact absurd (show none = some res1_ from hl1_) (by simp)
    replace hl1_ : pointsmanlaw01_TablesSize.l1 (k1_ + 1) l v3_1 v4_1 = some res1_ := hl1_
    rw [pointsmanlaw01_TablesSize.l1.eq_2] at hl1_
    show Tr Tryz.prog _ [⟨3, vInt .i64, v3_1⟩, ⟨4, vInt .i64, v4_1⟩, ⟨0, vSlice k_aTable, l⟩] [] _ _
    refine t_seq ?_
    refine t_seq ?_
    refine t_reg ?_
    refine st (l_move (o_t rfl) (lt rfl)) ?_
    refine st (l_move (o_t rfl) (lt rfl)) ?_
    refine st (l_lens (o_t rfl) sl27 (lt rfl)) ?_
    refine st (l_cmp (o_t rfl) (o_t rfl) .lss (lt rfl)) ?_
    refine st (l_move (o_t rfl) (lt rfl)) ?_
    rcases bt (decide (v4_1 < (l.length : Int))) with hb1 | hb1
    · rw [if_neg (nt hb1)] at hl1_
      refine g_n ⟨11, vBool, decide (v4_1 < (l.length : Int))⟩ rfl rfl (noy_b (b := true) hb1) (lt rfl) ?_
      refine g_n ⟨11, vBool, decide (v4_1 < (l.length : Int))⟩ rfl rfl (noy_b (b := true) hb1) (lt rfl) ?_
      refine st (l_pickf (o_t rfl) hb1 (o_b) (lt rfl)) ?_
      refine r_nil (k_seq ?_)
      refine t_iff (o_t rfl) rfl ?_
      exact t_exit (k_te <| k_te <| k_be <| k_brk v3_1 (Option.some.inj hl1_).symm (Sub.cons rfl (Sub.nil _)) rfl)
    · rw [if_pos hb1] at hl1_
      refine g_t rfl rfl hb1 ?_
      refine st (l_move (o_t rfl) (lt rfl)) ?_
      refine g_t rfl rfl hb1 ?_
      refine st (l_cmp (o_t rfl) (o_i) .leq (lt rfl)) ?_
      refine st (l_pickt (o_t rfl) hb1 (o_t rfl) (lt rfl)) ?_
      refine r_nil (k_seq ?_)
      rcases bt (decide (v3_1 ≤ (1048576 : Int))) with hb2 | hb2
      · rw [if_neg (nt hb2)] at hl1_
        refine t_iff (o_t rfl) hb2 ?_
        exact t_exit (k_te <| k_te <| k_be <| k_brk v3_1 (Option.some.inj hl1_).symm (Sub.cons rfl (Sub.nil _)) rfl)
      · rw [if_pos hb2] at hl1_
        refine t_ift (o_t rfl) hb2 ?_
        refine t_skip (k_seq ?_)
        refine t_seq ?_
        refine t_blk ?_
        refine t_reg ?_
        refine st (l_move (o_t rfl) (lt rfl)) ?_
        refine st (l_move (o_t rfl) (lt rfl)) ?_
        refine st (l_move (o_t rfl) (lt rfl)) ?_
        obtain ⟨t3, h4, hl1_⟩ := bs hl1_
        refine st (l_ia (o_t rfl) (o_t rfl) h4 sl27 sz39 (lt rfl)) ?_
        refine st (l_ld (o_t rfl) ty39 (lt rfl)) ?_
        obtain ⟨t5, h6, hl1_⟩ := bs hl1_
        refine st (l_call (ok41 t3 _ h6) (.cons (o_t rfl) (.nil)) (lt rfl)) ?_
        refine st (l_bin (o_t rfl) (o_t rfl) .add (lt rfl)) ?_
        refine st (l_assign (o_t rfl) (lt rfl)) ?_
        refine r_nil (k_bn <| k_seq ?_)
        refine t_reg ?_
        refine st (l_move (o_t rfl) (lt rfl)) ?_
        refine st (l_bin (o_t rfl) (o_i) .add (lt rfl)) ?_
        refine st (l_assign (o_t rfl) (lt rfl)) ?_
        exact r_nil (k_again (k1_, IntKind.wrap .i64 (v3_1 + t5), IntKind.wrap .i64 (v4_1 + (1 : Int))) hl1_ (Nat.lt_succ_self _) (Sub.cons rfl (Sub.cons rfl (Sub.cons rfl (Sub.nil _)))) rfl)
  · intro s1_ hs1_
    replace hs1_ : s1_ = res1_ := Eq.symm hs1_
    subst hs1_
    have hp_ := hx1_
    clear hx1_
    show Kx _ [⟨3, vInt .i64, s1_⟩] [] _ _
    refine k_seq ?_
    refine t_seq ?_
    refine t_reg ?_
    refine st (l_move (o_t rfl) (lt rfl)) ?_
    refine st (l_assign (o_t rfl) (lt rfl)) ?_
    refine r_nil (k_seq ?_)
    cases hp_
    exact t_ret (k_ret () rfl rfl rfl rfl rfl)
-- pointsman/pointsmanlaw01.ArrsSize
theorem ok14 (l : List aArr) (y_ : Int) (hp_ : pointsmanlaw01_ArrsSize l = some y_) : FP Tryz.prog 14 [⟨vSlice k_aArr, l⟩] (vInt .i64) y_ := by
  unfold pointsmanlaw01_ArrsSize at hp_
  refine fc_of 26 Tryz.func14 rfl fn14 rfl (Nat.le_of_ble_eq_true rfl) fun I_ w_ F_ => ?_
  refine t_seq ?_
  refine t_reg ?_
  refine st (l_assign (o_i) (lt rfl)) ?_
  refine r_nil (k_seq ?_)
  refine t_seq ?_
  refine t_reg ?_
  refine st (l_move (o_t rfl) (lt rfl)) ?_
  refine st (l_lens (o_t rfl) sl28 (lt rfl)) ?_
  refine st (l_assign (o_t rfl) (lt rfl)) ?_
  refine r_nil (k_seq ?_)
  refine t_seq ?_
  refine t_seq ?_
  refine t_reg ?_
  refine st (l_assign (o_i) (lt rfl)) ?_
  refine r_nil (k_seq ?_)
  obtain ⟨res1_, hl1_0, hx1_⟩ := bs hp_
  clear hp_
  refine t_sub (Γ' := [⟨3, vInt .i64, (l.length : Int)⟩, ⟨4, vInt .i64, (0 : Int)⟩, ⟨0, vSlice k_aArr, l⟩]) (Sub.cons rfl (Sub.cons rfl (Sub.cons rfl (Sub.nil _)))) ?_
  refine t_bloop (β := Nat × Int × Int) (σ := Int) (fun x_ => [⟨3, vInt .i64, x_.2.1⟩, ⟨4, vInt .i64, x_.2.2⟩, ⟨0, vSlice k_aArr, l⟩]) (fun x_ => []) (fun x_ => pointsmanlaw01_ArrsSize.l1 x_.1 l x_.2.1 x_.2.2 = some res1_) (fun x_ => x_.1) (fun x_ => [⟨3, vInt .i64, x_⟩]) (fun x_ => []) (fun x_ => res1_ = x_) ?_ ?_ ((((l.length : Int) - (0 : Int)).toNat + 1), (l.length : Int), (0 : Int)) hl1_0
  · rintro ⟨k1_, v3_1, v4_1⟩ hl1_
    rcases k1_ with _ | k1_
    · exact absurd (show none = some res1_ from hl1_) (by simp)
    replace hl1_ : pointsmanlaw01_ArrsSize.l1 (k1_ + 1) l v3_1 v4_1 = some res1_ := hl1_
    rw [pointsmanlaw01_ArrsSize.l1.eq_2] at hl1_
    show Tr Tryz.prog _ [⟨3, vInt .i64, v3_1⟩, ⟨4, vInt .i64, v4_1⟩, ⟨0, vSlice k_aArr, l⟩] [] _ _
    refine t_seq ?_
    refine t_seq ?_
    refine t_reg ?_
    refine st (l_move (o_t rfl) (lt rfl)) ?_
    refine st (l_move (o_t rfl) (lt rfl)) ?_
    refine st (l_lens (o_t rfl) sl28 (lt rfl)) ?_
    refine st (l_cmp (o_t rfl) (o_t rfl) .lss (lt rfl)) ?_
    refine st (l_move (o_t rfl) (lt rfl)) ?_
    rcases bt (decide (v4_1 < (l.length : Int))) with hb1 | hb1
    · rw [if_neg (nt hb1)] at hl1_
      refine g_n ⟨11, vBool, decide (v4_1 < (l.length : Int))⟩ rfl rfl (noy_b (b := true) hb1) (lt rfl) ?_
      refine g_n ⟨11, vBool, decide (v4_1 < (l.length : Int))⟩ rfl rfl (noy_b (b := true) hb1) (lt rfl) ?_
      refine st (l_pickf (o_t rfl) hb1 (o_b) (lt rfl)) ?_
      refine r_nil (k_seq ?_)
      refine t_iff (o_t rfl) rfl ?_
      exact t_exit (k_te <| k_te <| k_be <| k_brk v3_1 (Option.some.inj hl1_).symm (Sub.cons rfl (Sub.nil _)) rfl)
    · rw [if_pos hb1] at hl1_
      refine g_t rfl rfl hb1 ?_
      refine st (l_move (o_t rfl) (lt rfl)) ?_
      refine g_t rfl rfl hb1 ?_
      refine st (l_cmp (o_t rfl) (o_i) .leq (lt rfl)) ?_
      refine st (l_pickt (o_t rfl) hb1 (o_t rfl) (lt rfl)) ?_
      refine r_nil (k_seq ?_)
      rcases bt (decide (v3_1 ≤ (1048576 : Int))) with hb2 | hb2
      · rw [if_neg (nt hb2)] at hl1_
        refine t_iff (o_t rfl) hb2 ?_
        exact t_exit (k_te <| k_te <| k_be <| k_brk v3_1 (Option.some.inj hl1_).symm (Sub.cons rfl (Sub.nil _)) rfl)
      · rw [if_pos hb2] at hl1_
        refine t_ift (o_t rfl) hb2 ?_
        refine t_skip (k_seq ?_)
        refine t_seq ?_
        refine t_blk ?_
        refine t_reg ?_
        refine st (l_move (o_t rfl) (lt rfl)) ?_
        refine st (l_move (o_t rfl) (lt rfl)) ?_
        refine st (l_move (o_t rfl) (lt rfl)) ?_
        obtain ⟨t3, h4, hl1_⟩ := bs hl1_
        refine st (l_ia (o_t rfl) (o_t rfl) h4 sl28 sz59 (lt rfl)) ?_
        refine st (l_fa (o_t rfl) fl_aArr_0 fa59_0 (lt rfl)) ?_
        refine st (l_ld (o_t rfl) ty9 (lt rfl)) ?_
        refine st (l_lenstr (o_t rfl) str9 (lt rfl)) ?_
        refine st (l_bin (o_t rfl) (o_t rfl) .add (lt rfl)) ?_
        refine st (l_assign (o_t rfl) (lt rfl)) ?_
        refine r_nil (k_bn <| k_seq ?_)
        refine t_reg ?_
        refine st (l_move (o_t rfl) (lt rfl)) ?_
        refine st (l_bin (o_t rfl) (o_i) .add (lt rfl)) ?_
        refine st (l_assign (o_t rfl) (lt rfl)) ?_
        exact r_nil (k_again (k1_, IntKind.wrap .i64 (v3_1 + (t3.Name.size : Int)), IntKind.wrap .i64 (v4_1 + (1 : Int))) hl1_ (Nat.lt_succ_self _) (Sub.cons rfl (Sub.cons rfl (Sub.cons rfl (Sub.nil _)))) rfl)
  · intro s1_ hs1_
    replace hs1_ : s1_ = res1_ := Eq.symm hs1_
    subst hs1_
    have hp_ := hx1_
    clear hx1_
    show Kx _ [⟨3, vInt .i64, s1_⟩] [] _ _
    refine k_seq ?_
    refine t_seq ?_
    refine t_reg ?_
    refine st (l_move (o_t rfl) (lt rfl)) ?_
    refine st (l_assign (o_t rfl) (lt rfl)) ?_
    refine r_nil (k_seq ?_)
    cases hp_
    exact t_ret (k_ret () rfl rfl rfl rfl rfl)
-- pointsman/pointsmanlaw01.CodeSize
theorem ok4 (p0 : aCode) (y_ : Int) (hp_ : pointsmanlaw01_CodeSize p0 = some y_) : FP Tryz.prog 4 [⟨(k_aCode).v, p0⟩] (vInt .i64) y_ := by
  unfold pointsmanlaw01_CodeSize at hp_
  refine fc_of 68 Tryz.func4 rfl fn4 rfl (Nat.le_of_ble_eq_true rfl) fun I_ w_ F_ => ?_
  refine t_seq ?_
  refine t_reg ?_
  refine st (l_box (o_t rfl) (lt rfl)) ?_
  refine st (l_assign (o_i) (lt rfl)) ?_
  refine r_nil (k_seq ?_)
  refine t_seq ?_
  refine t_reg ?_
  refine st (l_assign (o_i) (lt rfl)) ?_
  refine r_nil (k_seq ?_)
  refine t_seq ?_
  refine t_seq ?_
  refine t_reg ?_
  refine st (l_move (o_t rfl) (lt rfl)) ?_
  refine st (l_cmp (o_t rfl) (o_i) .leq (lt rfl)) ?_
  refine r_nil (k_seq ?_)
  obtain ⟨res1_, hl1_, hx1_⟩ := bs hp_
  clear hp_
  refine t_join (σ := Int) (fun x_ => [⟨1, vPtr k_aCode, p0⟩, ⟨3, vInt .i64, x_⟩]) (fun x_ => []) (fun x_ => res1_ = x_) ?_ ?_
  · skip
    rcases bt (decide ((1 : Int) ≤ (1048576 : Int))) with hb1 | hb1
    · rw [if_neg (nt hb1)] at hl1_
      refine t_iff (o_t rfl) hb1 ?_
      exact t_skip (k_brk (1 : Int) (Option.some.inj hl1_).symm (Sub.cons rfl (Sub.cons rfl (Sub.nil _))) rfl)
    · rw [if_pos hb1] at hl1_
      refine t_ift (o_t rfl) hb1 ?_
      refine t_reg ?_
      refine st (l_move (o_t rfl) (lt rfl)) ?_
      refine st (l_fa (o_t rfl) fl_aCode_0 fa30_0 (lt rfl)) ?_
      refine st (l_ld (o_t rfl) ty22 (lt rfl)) ?_
      obtain ⟨t2, h3, hl1_⟩ := bs hl1_
      refine st (l_call (ok8 p0.Slots _ h3) (.cons (o_t rfl) (.nil)) (lt rfl)) ?_
      refine st (l_bin (o_t rfl) (o_t rfl) .add (lt rfl)) ?_
      refine st (l_assign (o_t rfl) (lt rfl)) ?_
      exact r_nil (k_brk (IntKind.wrap .i64 ((1 : Int) + t2)) (Option.some.inj hl1_).symm (Sub.cons rfl (Sub.cons rfl (Sub.nil _))) rfl)
  · intro s1_ hs1_
    replace hs1_ : s1_ = res1_ := Eq.symm hs1_
    subst hs1_
    have hp_ := hx1_
    clear hx1_
    show Kx _ [⟨1, vPtr k_aCode, p0⟩, ⟨3, vInt .i64, s1_⟩] [] _ _
    refine k_seq ?_
    refine t_seq ?_
    refine t_seq ?_
    refine t_reg ?_
    refine st (l_move (o_t rfl) (lt rfl)) ?_
    refine st (l_cmp (o_t rfl) (o_i) .leq (lt rfl)) ?_
    refine r_nil (k_seq ?_)
    obtain ⟨res2_, hl2_, hx2_⟩ := bs hp_
    clear hp_
    refine t_join (σ := Int) (fun x_ => [⟨1, vPtr k_aCode, p0⟩, ⟨3, vInt .i64, x_⟩]) (fun x_ => []) (fun x_ => res2_ = x_) ?_ ?_
    · skip
      rcases bt (decide (s1_ ≤ (1048576 : Int))) with hb4 | hb4
      · rw [if_neg (nt hb4)] at hl2_
        refine t_iff (o_t rfl) hb4 ?_
        exact t_skip (k_brk s1_ (Option.some.inj hl2_).symm (Sub.cons rfl (Sub.cons rfl (Sub.nil _))) rfl)
      · rw [if_pos hb4] at hl2_
        refine t_ift (o_t rfl) hb4 ?_
        refine t_reg ?_
        refine st (l_move (o_t rfl) (lt rfl)) ?_
        refine st (l_fa (o_t rfl) fl_aCode_1 fa30_1 (lt rfl)) ?_
        refine st (l_ld (o_t rfl) ty23 (lt rfl)) ?_
        obtain ⟨t5, h6, hl2_⟩ := bs hl2_
        refine st (l_call (ok9 p0.Heads _ h6) (.cons (o_t rfl) (.nil)) (lt rfl)) ?_
        refine st (l_bin (o_t rfl) (o_t rfl) .add (lt rfl)) ?_
        refine st (l_assign (o_t rfl) (lt rfl)) ?_
        exact r_nil (k_brk (IntKind.wrap .i64 (s1_ + t5)) (Option.some.inj hl2_).symm (Sub.cons rfl (Sub.cons rfl (Sub.nil _))) rfl)
    · intro s2_ hs2_
      replace hs2_ : s2_ = res2_ := Eq.symm hs2_
      subst hs2_
      have hp_ := hx2_
      clear hx2_
      show Kx _ [⟨1, vPtr k_aCode, p0⟩, ⟨3, vInt .i64, s2_⟩] [] _ _
      refine k_seq ?_
      refine t_seq ?_
      refine t_seq ?_
      refine t_reg ?_
      refine st (l_move (o_t rfl) (lt rfl)) ?_
      refine st (l_cmp (o_t rfl) (o_i) .leq (lt rfl)) ?_
      refine r_nil (k_seq ?_)
      obtain ⟨res3_, hl3_, hx3_⟩ := bs hp_
      clear hp_
      refine t_join (σ := Int) (fun x_ => [⟨1, vPtr k_aCode, p0⟩, ⟨3, vInt .i64, x_⟩]) (fun x_ => []) (fun x_ => res3_ = x_) ?_ ?_
      · skip
        rcases bt (decide (s2_ ≤ (1048576 : Int))) with hb7 | hb7
        · rw [if_neg (nt hb7)] at hl3_
          refine t_iff (o_t rfl) hb7 ?_
          exact t_skip (k_brk s2_ (Option.some.inj hl3_).symm (Sub.cons rfl (Sub.cons rfl (Sub.nil _))) rfl)
        · rw [if_pos hb7] at hl3_
          refine t_ift (o_t rfl) hb7 ?_
          refine t_reg ?_
          refine st (l_move (o_t rfl) (lt rfl)) ?_
          refine st (l_fa (o_t rfl) fl_aCode_2 fa30_2 (lt rfl)) ?_
          refine st (l_ld (o_t rfl) ty22 (lt rfl)) ?_
          obtain ⟨t8, h9, hl3_⟩ := bs hl3_
          refine st (l_call (ok8 p0.Meta _ h9) (.cons (o_t rfl) (.nil)) (lt rfl)) ?_
          refine st (l_bin (o_t rfl) (o_t rfl) .add (lt rfl)) ?_
          refine st (l_assign (o_t rfl) (lt rfl)) ?_
          exact r_nil (k_brk (IntKind.wrap .i64 (s2_ + t8)) (Option.some.inj hl3_).symm (Sub.cons rfl (Sub.cons rfl (Sub.nil _))) rfl)
      · intro s3_ hs3_
        replace hs3_ : s3_ = res3_ := Eq.symm hs3_
        subst hs3_
        have hp_ := hx3_
        clear hx3_
        show Kx _ [⟨1, vPtr k_aCode, p0⟩, ⟨3, vInt .i64, s3_⟩] [] _ _
        refine k_seq ?_
        refine t_seq ?_
        refine t_seq ?_
        refine t_reg ?_
        refine st (l_move (o_t rfl) (lt rfl)) ?_
        refine st (l_cmp (o_t rfl) (o_i) .leq (lt rfl)) ?_
        refine r_nil (k_seq ?_)
        obtain ⟨res4_, hl4_, hx4_⟩ := bs hp_
        clear hp_
        refine t_join (σ := Int) (fun x_ => [⟨1, vPtr k_aCode, p0⟩, ⟨3, vInt .i64, x_⟩]) (fun x_ => []) (fun x_ => res4_ = x_) ?_ ?_
        · skip
          rcases bt (decide (s3_ ≤ (1048576 : Int))) with hb10 | hb10
          · rw [if_neg (nt hb10)] at hl4_
            refine t_iff (o_t rfl) hb10 ?_
            exact t_skip (k_brk s3_ (Option.some.inj hl4_).symm (Sub.cons rfl (Sub.cons rfl (Sub.nil _))) rfl)
          · rw [if_pos hb10] at hl4_
            refine t_ift (o_t rfl) hb10 ?_
            refine t_reg ?_
            refine st (l_move (o_t rfl) (lt rfl)) ?_
            refine st (l_fa (o_t rfl) fl_aCode_3 fa30_3 (lt rfl)) ?_
            refine st (l_ld (o_t rfl) ty24 (lt rfl)) ?_
            obtain ⟨t11, h12, hl4_⟩ := bs hl4_
            refine st (l_call (ok10 p0.States _ h12) (.cons (o_t rfl) (.nil)) (lt rfl)) ?_
            refine st (l_bin (o_t rfl) (o_t rfl) .add (lt rfl)) ?_
            refine st (l_assign (o_t rfl) (lt rfl)) ?_
            exact r_nil (k_brk (IntKind.wrap .i64 (s3_ + t11)) (Option.some.inj hl4_).symm (Sub.cons rfl (Sub.cons rfl (Sub.nil _))) rfl)
        · intro s4_ hs4_
          replace hs4_ : s4_ = res4_ := Eq.symm hs4_
          subst hs4_
          have hp_ := hx4_
          clear hx4_
          show Kx _ [⟨1, vPtr k_aCode, p0⟩, ⟨3, vInt .i64, s4_⟩] [] _ _
          refine k_seq ?_
          refine t_seq ?_
          refine t_seq ?_
          refine t_reg ?_
          refine st (l_move (o_t rfl) (lt rfl)) ?_
          refine st (l_cmp (o_t rfl) (o_i) .leq (lt rfl)) ?_
          refine r_nil (k_seq ?_)
          obtain ⟨res5_, hl5_, hx5_⟩ := bs hp_
          clear hp_
          refine t_join (σ := Int) (fun x_ => [⟨1, vPtr k_aCode, p0⟩, ⟨3, vInt .i64, x_⟩]) (fun x_ => []) (fun x_ => res5_ = x_) ?_ ?_
          · skip
            rcases bt (decide (s4_ ≤ (1048576 : Int))) with hb13 | hb13
            · rw [if_neg (nt hb13)] at hl5_
              refine t_iff (o_t rfl) hb13 ?_
              exact t_skip (k_brk s4_ (Option.some.inj hl5_).symm (Sub.cons rfl (Sub.cons rfl (Sub.nil _))) rfl)
            · rw [if_pos hb13] at hl5_
              refine t_ift (o_t rfl) hb13 ?_
              refine t_reg ?_
              refine st (l_move (o_t rfl) (lt rfl)) ?_
              refine st (l_fa (o_t rfl) fl_aCode_4 fa30_4 (lt rfl)) ?_
              refine st (l_ld (o_t rfl) ty25 (lt rfl)) ?_
              obtain ⟨t14, h15, hl5_⟩ := bs hl5_
              refine st (l_call (ok11 p0.Main _ h15) (.cons (o_t rfl) (.nil)) (lt rfl)) ?_
              refine st (l_bin (o_t rfl) (o_t rfl) .add (lt rfl)) ?_
              refine st (l_assign (o_t rfl) (lt rfl)) ?_
              exact r_nil (k_brk (IntKind.wrap .i64 (s4_ + t14)) (Option.some.inj hl5_).symm (Sub.cons rfl (Sub.cons rfl (Sub.nil _))) rfl)
          · intro s5_ hs5_
            replace hs5_ : s5_ = res5_ := Eq.symm hs5_
            subst hs5_
            have hp_ := hx5_
            clear hx5_
            show Kx _ [⟨1, vPtr k_aCode, p0⟩, ⟨3, vInt .i64, s5_⟩] [] _ _
            refine k_seq ?_
            refine t_seq ?_
            refine t_seq ?_
            refine t_reg ?_
            refine st (l_move (o_t rfl) (lt rfl)) ?_
            refine st (l_cmp (o_t rfl) (o_i) .leq (lt rfl)) ?_
            refine r_nil (k_seq ?_)
            obtain ⟨res6_, hl6_, hx6_⟩ := bs hp_
            clear hp_
            refine t_join (σ := Int) (fun x_ => [⟨1, vPtr k_aCode, p0⟩, ⟨3, vInt .i64, x_⟩]) (fun x_ => []) (fun x_ => res6_ = x_) ?_ ?_
            · skip
              rcases bt (decide (s5_ ≤ (1048576 : Int))) with hb16 | hb16
              · rw [if_neg (nt hb16)] at hl6_
                refine t_iff (o_t rfl) hb16 ?_
                exact t_skip (k_brk s5_ (Option.some.inj hl6_).symm (Sub.cons rfl (Sub.cons rfl (Sub.nil _))) rfl)
              · rw [if_pos hb16] at hl6_
                refine t_ift (o_t rfl) hb16 ?_
                refine t_reg ?_
                refine st (l_move (o_t rfl) (lt rfl)) ?_
                refine st (l_fa (o_t rfl) fl_aCode_5 fa30_5 (lt rfl)) ?_
                refine st (l_ld (o_t rfl) ty26 (lt rfl)) ?_
                obtain ⟨t17, h18, hl6_⟩ := bs hl6_
                refine st (l_call (ok12 p0.Acts _ h18) (.cons (o_t rfl) (.nil)) (lt rfl)) ?_
                refine st (l_bin (o_t rfl) (o_t rfl) .add (lt rfl)) ?_
                refine st (l_assign (o_t rfl) (lt rfl)) ?_
                exact r_nil (k_brk (IntKind.wrap .i64 (s5_ + t17)) (Option.some.inj hl6_).symm (Sub.cons rfl (Sub.cons rfl (Sub.nil _))) rfl)
            · intro s6_ hs6_
              replace hs6_ : s6_ = res6_ := Eq.symm hs6_
              subst hs6_
              have hp_ := hx6_
              clear hx6_
              show Kx _ [⟨1, vPtr k_aCode, p0⟩, ⟨3, vInt .i64, s6_⟩] [] _ _
              refine k_seq ?_
              refine t_seq ?_
              refine t_seq ?_
              refine t_reg ?_
              refine st (l_move (o_t rfl) (lt rfl)) ?_
              refine st (l_cmp (o_t rfl) (o_i) .leq (lt rfl)) ?_
              refine r_nil (k_seq ?_)
              obtain ⟨res7_, hl7_, hx7_⟩ := bs hp_
              clear hp_
              refine t_join (σ := Int) (fun x_ => [⟨1, vPtr k_aCode, p0⟩, ⟨3, vInt .i64, x_⟩]) (fun x_ => []) (fun x_ => res7_ = x_) ?_ ?_
              · skip
                rcases bt (decide (s6_ ≤ (1048576 : Int))) with hb19 | hb19
                · rw [if_neg (nt hb19)] at hl7_
                  refine t_iff (o_t rfl) hb19 ?_
                  exact t_skip (k_brk s6_ (Option.some.inj hl7_).symm (Sub.cons rfl (Sub.cons rfl (Sub.nil _))) rfl)
                · rw [if_pos hb19] at hl7_
                  refine t_ift (o_t rfl) hb19 ?_
                  refine t_reg ?_
                  refine st (l_move (o_t rfl) (lt rfl)) ?_
                  refine st (l_fa (o_t rfl) fl_aCode_6 fa30_6 (lt rfl)) ?_
                  refine st (l_ld (o_t rfl) ty27 (lt rfl)) ?_
                  obtain ⟨t20, h21, hl7_⟩ := bs hl7_
                  refine st (l_call (ok13 p0.Tables _ h21) (.cons (o_t rfl) (.nil)) (lt rfl)) ?_
                  refine st (l_bin (o_t rfl) (o_t rfl) .add (lt rfl)) ?_
                  refine st (l_assign (o_t rfl) (lt rfl)) ?_
                  exact r_nil (k_brk (IntKind.wrap .i64 (s6_ + t20)) (Option.some.inj hl7_).symm (Sub.cons rfl (Sub.cons rfl (Sub.nil _))) rfl)
              · intro s7_ hs7_
                replace hs7_ : s7_ = res7_ := Eq.symm hs7_
                subst hs7_
                have hp_ := hx7_
                clear hx7_
                show Kx _ [⟨1, vPtr k_aCode, p0⟩, ⟨3, vInt .i64, s7_⟩] [] _ _
                refine k_seq ?_
                refine t_seq ?_
                refine t_seq ?_
                refine t_reg ?_
                refine st (l_move (o_t rfl) (lt rfl)) ?_
                refine st (l_cmp (o_t rfl) (o_i) .leq (lt rfl)) ?_
                refine r_nil (k_seq ?_)
                obtain ⟨res8_, hl8_, hx8_⟩ := bs hp_
                clear hp_
                refine t_join (σ := Int) (fun x_ => [⟨1, vPtr k_aCode, p0⟩, ⟨3, vInt .i64, x_⟩]) (fun x_ => []) (fun x_ => res8_ = x_) ?_ ?_
                · skip
                  rcases bt (decide (s7_ ≤ (1048576 : Int))) with hb22 | hb22
                  · rw [if_neg (nt hb22)] at hl8_
                    refine t_iff (o_t rfl) hb22 ?_
                    exact t_skip (k_brk s7_ (Option.some.inj hl8_).symm (Sub.cons rfl (Sub.cons rfl (Sub.nil _))) rfl)
                  · rw [if_pos hb22] at hl8_
                    refine t_ift (o_t rfl) hb22 ?_
                    refine t_reg ?_
                    refine st (l_move (o_t rfl) (lt rfl)) ?_
                    refine st (l_fa (o_t rfl) fl_aCode_7 fa30_7 (lt rfl)) ?_
                    refine st (l_ld (o_t rfl) ty22 (lt rfl)) ?_
                    obtain ⟨t23, h24, hl8_⟩ := bs hl8_
                    refine st (l_call (ok8 p0.Emits _ h24) (.cons (o_t rfl) (.nil)) (lt rfl)) ?_
                    refine st (l_bin (o_t rfl) (o_t rfl) .add (lt rfl)) ?_
                    refine st (l_assign (o_t rfl) (lt rfl)) ?_
                    exact r_nil (k_brk (IntKind.wrap .i64 (s7_ + t23)) (Option.some.inj hl8_).symm (Sub.cons rfl (Sub.cons rfl (Sub.nil _))) rfl)
                · intro s8_ hs8_
                  replace hs8_ : s8_ = res8_ := Eq.symm hs8_
                  subst hs8_
                  have hp_ := hx8_
                  clear hx8_
                  show Kx _ [⟨1, vPtr k_aCode, p0⟩, ⟨3, vInt .i64, s8_⟩] [] _ _
                  refine k_seq ?_
                  refine t_seq ?_
                  refine t_seq ?_
                  refine t_reg ?_
                  refine st (l_move (o_t rfl) (lt rfl)) ?_
                  refine st (l_cmp (o_t rfl) (o_i) .leq (lt rfl)) ?_
                  refine r_nil (k_seq ?_)
                  rcases bt (decide (s8_ ≤ (1048576 : Int))) with hb25 | hb25
                  · rw [if_neg (nt hb25)] at hp_
                    refine t_iff (o_t rfl) hb25 ?_
                    refine t_skip (k_seq ?_)
                    refine t_seq ?_
                    refine t_reg ?_
                    refine st (l_move (o_t rfl) (lt rfl)) ?_
                    refine st (l_assign (o_t rfl) (lt rfl)) ?_
                    refine r_nil (k_seq ?_)
                    cases hp_
                    exact t_ret (k_ret () rfl rfl rfl rfl rfl)
                  · rw [if_pos hb25] at hp_
                    refine t_ift (o_t rfl) hb25 ?_
                    refine t_reg ?_
                    refine st (l_move (o_t rfl) (lt rfl)) ?_
                    refine st (l_fa (o_t rfl) fl_aCode_8 fa30_8 (lt rfl)) ?_
                    refine st (l_ld (o_t rfl) ty28 (lt rfl)) ?_
                    obtain ⟨t26, h27, hp_⟩ := bs hp_
                    refine st (l_call (ok14 p0.Arrays _ h27) (.cons (o_t rfl) (.nil)) (lt rfl)) ?_
                    refine st (l_bin (o_t rfl) (o_t rfl) .add (lt rfl)) ?_
                    refine st (l_assign (o_t rfl) (lt rfl)) ?_
                    refine r_nil (k_seq ?_)
                    refine t_seq ?_
                    refine t_reg ?_
                    refine st (l_move (o_t rfl) (lt rfl)) ?_
                    refine st (l_assign (o_t rfl) (lt rfl)) ?_
                    refine r_nil (k_seq ?_)
                    cases hp_
                    exact t_ret (k_ret () rfl rfl rfl rfl rfl)
-- (pointsman/code.look).slotted$1
theorem ok43 (w : Int) (y_ : Bool) (hp_ : code_look_slotted_1 w = some y_) : FP Tryz.prog 43 [⟨vInt .i64, w⟩] vBool y_ := by
  unfold code_look_slotted_1 at hp_
  refine fc_of 9 Tryz.func43 rfl fn43 rfl (Nat.le_of_ble_eq_true rfl) fun I_ w_ F_ => ?_
  refine t_seq ?_
  refine t_reg ?_
  refine st (l_assign (o_b) (lt rfl)) ?_
  refine r_nil (k_seq ?_)
  refine t_seq ?_
  refine t_reg ?_
  refine st (l_move (o_t rfl) (lt rfl)) ?_
  refine st (l_cmp (o_t rfl) (o_i) .lss (lt rfl)) ?_
  refine st (l_move (o_t rfl) (lt rfl)) ?_
  rcases bt (decide (w < (1 : Int))) with hb1 | hb1
  · rw [if_neg (nt hb1)] at hp_
    refine g_t rfl rfl hb1 ?_
    refine st (l_move (o_t rfl) (lt rfl)) ?_
    refine g_t rfl rfl hb1 ?_
    refine st (l_cmp (o_t rfl) (o_i) .gtr (lt rfl)) ?_
    refine st (l_pickf (o_t rfl) hb1 (o_t rfl) (lt rfl)) ?_
    refine st (l_assign (o_t rfl) (lt rfl)) ?_
    refine r_nil (k_seq ?_)
    cases hp_
    exact t_ret (k_ret () rfl rfl rfl rfl rfl)
  · rw [if_pos hb1] at hp_
    refine g_n ⟨5, vBool, decide (w < (1 : Int))⟩ rfl rfl (noy_b (b := false) hb1) (lt rfl) ?_
    refine g_n ⟨5, vBool, decide (w < (1 : Int))⟩ rfl rfl (noy_b (b := false) hb1) (lt rfl) ?_
    refine st (l_pickt (o_t rfl) hb1 (o_b) (lt rfl)) ?_
    refine st (l_assign (o_t rfl) (lt rfl)) ?_
    refine r_nil (k_seq ?_)
    cases hp_
    exact t_ret (k_ret () rfl rfl rfl rfl rfl)
-- slices.IndexFunc[[]int,int]
theorem ok75 (s : List Int) (f : Int → Option Bool) (y_ : Int) (hp_ : slices_IndexFunc_int_int s f = some y_) : FP Tryz.prog 75 [⟨vSlice (kInt .i64), s⟩, ⟨vClo Tryz.prog (fun x : Int => [⟨vInt .i64, x⟩]) vBool, f⟩] (vInt .i64) y_ := by
  unfold slices_IndexFunc_int_int at hp_
  refine fc_of 19 Tryz.func75 rfl fn75 rfl (Nat.le_of_ble_eq_true rfl) fun I_ w_ F_ => ?_
  refine t_seq ?_
  refine t_reg ?_
  refine st (l_assign (o_i) (lt rfl)) ?_
  refine r_nil (k_seq ?_)
  refine t_seq ?_
  refine t_seq ?_
  refine t_reg ?_
  refine st (l_move (o_t rfl) (lt rfl)) ?_
  refine st (l_lens (o_t rfl) sl22 (lt rfl)) ?_
  refine st (l_move (o_i) (lt rfl)) ?_
  refine r_nil (k_seq ?_)
  obtain ⟨res1_, hl1_0, hx1_⟩ := bs hp_
  clear hp_
  refine t_sub (Γ' := [⟨8, vInt .i64, (0 : Int)⟩, ⟨0, vSlice (kInt .i64), s⟩, ⟨1, vClo Tryz.prog (fun x : Int => [⟨vInt .i64, x⟩]) vBool, f⟩, ⟨7, vInt .i64, (s.length : Int)⟩]) (Sub.cons rfl (Sub.cons rfl (Sub.cons rfl (Sub.cons rfl (Sub.nil _))))) ?_
  refine t_bloop (β := Nat × Int) (σ := Unit) (fun x_ => [⟨8, vInt .i64, x_.2⟩, ⟨0, vSlice (kInt .i64), s⟩, ⟨1, vClo Tryz.prog (fun x : Int => [⟨vInt .i64, x⟩]) vBool, f⟩, ⟨7, vInt .i64, (s.length : Int)⟩]) (fun x_ => []) (fun x_ => slices_IndexFunc_int.l1 x_.1 s f x_.2 = some res1_) (fun x_ => x_.1) (fun x_ => []) (fun x_ => []) (fun x_ => res1_ = .go x_) ?_ ?_ ((((s.length : Int) - (0 : Int)).toNat + 1), (0 : Int)) hl1_0
  · rintro ⟨k1_, v8_1⟩ hl1_
    rcases k1_ with _ | k1_
    · exact absurd (show none = some res1_ from hl1_) (by simp)
    replace hl1_ : slices_IndexFunc_int.l1 (k1_ + 1) s f v8_1 = some res1_ := hl1_
    rw [slices_IndexFunc_int.l1.eq_2] at hl1_
    show Tr Tryz.prog _ [⟨8, vInt .i64, v8_1⟩, ⟨0, vSlice (kInt .i64), s⟩, ⟨1, vClo Tryz.prog (fun x : Int => [⟨vInt .i64, x⟩]) vBool, f⟩, ⟨7, vInt .i64, (s.length : Int)⟩] [] _ _
    refine t_seq ?_
    refine t_reg ?_
    refine st (l_cmp (o_t rfl) (o_t rfl) .lss (lt rfl)) ?_
    refine r_nil (k_seq ?_)
    refine t_seq ?_
    rcases bt (decide (v8_1 < (s.length : Int))) with hb1 | hb1
    · rw [if_neg (nt hb1)] at hl1_
      refine t_iff (o_t rfl) hb1 ?_
      exact t_exit (k_te <| k_te <| k_be <| k_brk () (Option.some.inj hl1_).symm (Sub.nil _) rfl)
    · rw [if_pos hb1] at hl1_
      refine t_ift (o_t rfl) hb1 ?_
      refine t_skip (k_seq ?_)
      refine t_seq ?_
      refine t_blk ?_
      refine t_seq ?_
      refine t_reg ?_
      refine st (l_move (o_t rfl) (lt rfl)) ?_
      refine st (l_assign (o_t rfl) (lt rfl)) ?_
      refine r_nil (k_seq ?_)
      refine t_seq ?_
      refine t_reg ?_
      refine st (l_move (o_t rfl) (lt rfl)) ?_
      refine st (l_move (o_t rfl) (lt rfl)) ?_
      refine st (l_move (o_t rfl) (lt rfl)) ?_
      obtain ⟨t2, h3, hl1_⟩ := bs hl1_
      refine st (l_ia (o_t rfl) (o_t rfl) h3 sl22 sz3 (lt rfl)) ?_
      refine st (l_ld (o_t rfl) ty3 (lt rfl)) ?_
      obtain ⟨t4, h5, hl1_⟩ := bs hl1_
      refine st (l_callc (o_t rfl) (x := t2) (.cons (o_t rfl) (.nil)) h5 (lt rfl)) ?_
      refine r_nil (k_seq ?_)
      rcases bt (t4) with hb6 | hb6
      · rw [if_neg (nt hb6)] at hl1_
        refine t_iff (o_t rfl) hb6 ?_
        refine t_skip (k_bn <| k_seq ?_)
        refine t_reg ?_
        refine st (l_bin (o_t rfl) (o_i) .add (lt rfl)) ?_
        refine st (l_move (o_t rfl) (lt rfl)) ?_
        exact r_nil (k_again (k1_, IntKind.wrap .i64 (v8_1 + (1 : Int))) hl1_ (Nat.lt_succ_self _) (Sub.cons rfl (Sub.cons rfl (Sub.cons rfl (Sub.cons rfl (Sub.nil _))))) rfl)
      · rw [if_pos hb6] at hl1_
        refine t_ift (o_t rfl) hb6 ?_
        refine t_seq ?_
        refine t_reg ?_
        refine st (l_move (o_t rfl) (lt rfl)) ?_
        refine st (l_assign (o_t rfl) (lt rfl)) ?_
        refine r_nil (k_seq ?_)
        cases hl1_
        dsimp only [Ex.elim] at hx1_
        cases hx1_
        exact t_ret (k_br <| k_tr <| k_tr <| k_br <| k_brk_r <| k_tr <| k_ret () rfl rfl rfl rfl rfl)
  · intro s1_ hs1_
    replace hs1_ : res1_ = .go s1_ := hs1_
    subst hs1_
    dsimp only [Ex.elim] at hx1_
    have hp_ := hx1_
    clear hx1_
    show Kx _ [] [] _ _
    refine k_seq ?_
    refine t_seq ?_
    refine t_reg ?_
    refine st (l_assign (o_i) (lt rfl)) ?_
    refine r_nil (k_seq ?_)
    cases hp_
    exact t_ret (k_ret () rfl rfl rfl rfl rfl)
-- slices.ContainsFunc[[]int,int]
theorem ok42 (s : List Int) (f : Int → Option Bool) (y_ : Bool) (hp_ : slices_ContainsFunc_int_int s f = some y_) : FP Tryz.prog 42 [⟨vSlice (kInt .i64), s⟩, ⟨vClo Tryz.prog (fun x : Int => [⟨vInt .i64, x⟩]) vBool, f⟩] vBool y_ := by
  unfold slices_ContainsFunc_int_int at hp_
  refine fc_of 9 Tryz.func42 rfl fn42 rfl (Nat.le_of_ble_eq_true rfl) fun I_ w_ F_ => ?_
  refine t_seq ?_
  refine t_reg ?_
  refine st (l_assign (o_b) (lt rfl)) ?_
  refine r_nil (k_seq ?_)
  refine t_seq ?_
  refine t_reg ?_
  refine st (l_move (o_t rfl) (lt rfl)) ?_
  refine st (l_move (o_t rfl) (lt rfl)) ?_
  obtain ⟨t1, h2, hp_⟩ := bs hp_
  refine st (l_call (ok75 s f _ h2) (.cons (o_t rfl) (.cons (o_t rfl) (.nil))) (lt rfl)) ?_
  refine st (l_cmp (o_t rfl) (o_i) .geq (lt rfl)) ?_
  refine st (l_assign (o_t rfl) (lt rfl)) ?_
  refine r_nil (k_seq ?_)
  cases hp_
  exact t_ret (k_ret () rfl rfl rfl rfl rfl)
-- pointsman/code.within
theorem ok47 (n : Int) (most : Int) (y_ : Bool) (hp_ : code_within n most = some y_) : FP Tryz.prog 47 [⟨vInt .i64, n⟩, ⟨vInt .i64, most⟩] vBool y_ := by
  unfold code_within at hp_
  refine fc_of 12 Tryz.func47 rfl fn47 rfl (Nat.le_of_ble_eq_true rfl) fun I_ w_ F_ => ?_
  refine t_seq ?_
  refine t_reg ?_
  refine st (l_assign (o_b) (lt rfl)) ?_
  refine r_nil (k_seq ?_)
  refine t_seq ?_
  refine t_reg ?_
  refine st (l_move (o_t rfl) (lt rfl)) ?_
  refine st (l_cmp (o_t rfl) (o_i) .geq (lt rfl)) ?_
  refine st (l_move (o_t rfl) (lt rfl)) ?_
  rcases bt (decide (n ≥ (0 : Int))) with hb1 | hb1
  · rw [if_neg (nt hb1)] at hp_
    refine g_n ⟨7, vBool, decide (n ≥ (0 : Int))⟩ rfl rfl (noy_b (b := true) hb1) (lt rfl) ?_
    refine g_n ⟨7, vBool, decide (n ≥ (0 : Int))⟩ rfl rfl (noy_b (b := true) hb1) (lt rfl) ?_
    refine g_n ⟨7, vBool, decide (n ≥ (0 : Int))⟩ rfl rfl (noy_b (b := true) hb1) (lt rfl) ?_
    refine st (l_pickf (o_t rfl) hb1 (o_b) (lt rfl)) ?_
    refine st (l_assign (o_t rfl) (lt rfl)) ?_
    refine r_nil (k_seq ?_)
    cases hp_
    exact t_ret (k_ret () rfl rfl rfl rfl rfl)
  · rw [if_pos hb1] at hp_
    refine g_t rfl rfl hb1 ?_
    refine st (l_move (o_t rfl) (lt rfl)) ?_
    refine g_t rfl rfl hb1 ?_
    refine st (l_move (o_t rfl) (lt rfl)) ?_
    refine g_t rfl rfl hb1 ?_
    refine st (l_cmp (o_t rfl) (o_t rfl) .lss (lt rfl)) ?_
    refine st (l_pickt (o_t rfl) hb1 (o_t rfl) (lt rfl)) ?_
    refine st (l_assign (o_t rfl) (lt rfl)) ?_
    refine r_nil (k_seq ?_)
    cases hp_
    exact t_ret (k_ret () rfl rfl rfl rfl rfl)
-- (pointsman/code.look).slot
theorem ok54 (l : code_look) (n : Int) (y_ : Bool) (hp_ : code_look_slot l n = some y_) : FP Tryz.prog 54 [⟨(k_code_look).v, l⟩, ⟨vInt .i64, n⟩] vBool y_ := by
  unfold code_look_slot at hp_
  refine fc_of 11 Tryz.func54 rfl fn54 rfl (Nat.le_of_ble_eq_true rfl) fun I_ w_ F_ => ?_
  refine t_seq ?_
  refine t_reg ?_
  refine st (l_box (o_t rfl) (lt rfl)) ?_
  refine st (l_assign (o_b) (lt rfl)) ?_
  refine r_nil (k_seq ?_)
  refine t_seq ?_
  refine t_reg ?_
  refine st (l_move (o_t rfl) (lt rfl)) ?_
  refine st (l_fa (o_t rfl) fl_code_look_0 fa51_0 (lt rfl)) ?_
  refine st (l_fa (o_t rfl) fl_aCode_0 fa30_0 (lt rfl)) ?_
  refine st (l_ld (o_t rfl) ty22 (lt rfl)) ?_
  refine st (l_lens (o_t rfl) sl22 (lt rfl)) ?_
  obtain ⟨t1, h2, hp_⟩ := bs hp_
  refine st (l_call (ok47 n (l.c.Slots.length : Int) _ h2) (.cons (o_t rfl) (.cons (o_t rfl) (.nil))) (lt rfl)) ?_
  refine st (l_assign (o_t rfl) (lt rfl)) ?_
  refine r_nil (k_seq ?_)
  cases hp_
  exact t_ret (k_ret () rfl rfl rfl rfl rfl)
-- (pointsman/code.look).slots$1
theorem ok80_0 (n : Int) (p1 : code_look) (y_ : Bool) (hp_ : code_look_slots_1 n p1 = some y_) : FP Tryz.prog 80 [⟨vInt .i64, n⟩, ⟨vPtr k_code_look, p1⟩] vBool y_ := by
  unfold code_look_slots_1 at hp_
  refine fc_of 8 Tryz.func80 rfl fn80 rfl (Nat.le_of_ble_eq_true rfl) fun I_ w_ F_ => ?_
  refine t_seq ?_
  refine t_reg ?_
  refine st (l_assign (o_b) (lt rfl)) ?_
  refine r_nil (k_seq ?_)
  refine t_seq ?_
  refine t_reg ?_
  refine st (l_ld (o_t rfl) ty51 (lt rfl)) ?_
  refine st (l_move (o_t rfl) (lt rfl)) ?_
  obtain ⟨t1, h2, hp_⟩ := bs hp_
  refine st (l_call (ok54 p1 n _ h2) (.cons (o_t rfl) (.cons (o_t rfl) (.nil))) (lt rfl)) ?_
  refine st (l_not (o_t rfl) (lt rfl)) ?_
  refine st (l_assign (o_t rfl) (lt rfl)) ?_
  refine r_nil (k_seq ?_)
  cases hp_
  exact t_ret (k_ret () rfl rfl rfl rfl rfl)
-- (pointsman/code.look).slots
theorem ok59 (l : code_look) (s : List Int) (y_ : Bool) (hp_ : code_look_slots l s = some y_) : FP Tryz.prog 59 [⟨(k_code_look).v, l⟩, ⟨vSlice (kInt .i64), s⟩] vBool y_ := by
  unfold code_look_slots at hp_
  refine fc_of 9 Tryz.func59 rfl fn59 rfl (Nat.le_of_ble_eq_true rfl) fun I_ w_ F_ => ?_
  refine t_seq ?_
  refine t_reg ?_
  refine st (l_box (o_t rfl) (lt rfl)) ?_
  refine st (l_assign (o_b) (lt rfl)) ?_
  refine r_nil (k_seq ?_)
  refine t_seq ?_
  refine t_reg ?_
  refine st (l_move (o_t rfl) (lt rfl)) ?_
  refine st (l_mkf (.nil) (.cons (o_t rfl) (.nil)) (lt rfl)) ?_
  obtain ⟨t1, h2, hp_⟩ := bs hp_
  refine st (l_call (ok42 s (fun x_ : Int => code_look_slots_1 x_ l) _ h2) (.cons (o_t rfl) (.cons (o_clo (o_t rfl) fn80 (fun x_ y h => ok80_0 x_ l _ h)) (.nil))) (lt rfl)) ?_
  refine st (l_not (o_t rfl) (lt rfl)) ?_
  refine st (l_assign (o_t rfl) (lt rfl)) ?_
  refine r_nil (k_seq ?_)
  cases hp_
  exact t_ret (k_ret () rfl rfl rfl rfl rfl)
-- (pointsman/code.look).own
theorem ok44_0 (l : code_look) (seen : List (Int × Int)) (s : List Int) (least : Int) (most : Int) (seenG : Value) (y_ : Bool × (List (Int × Int))) (hp_ : code_look_own l seen s least most = some y_) : FC Tryz.prog 44 [⟨(k_code_look).v, l⟩, ⟨kVal.v, seenG⟩, ⟨vSlice (kInt .i64), s⟩, ⟨vInt .i64, least⟩, ⟨vInt .i64, most⟩] [rMap seenG (kInt .i64) (kInt .i64) seen] (fun _ : Unit => .ret vBool y_.1) (fun _ => [rMap seenG (kInt .i64) (kInt .i64) y_.2]) := by
  unfold code_look_own at hp_
  refine fc_of 44 Tryz.func44 rfl fn44 rfl (Nat.le_of_ble_eq_true rfl) fun I_ w_ F_ => ?_
  refine t_seq ?_
  refine t_reg ?_
  refine st (l_box (o_t rfl) (lt rfl)) ?_
  refine st (l_assign (o_b) (lt rfl)) ?_
  refine r_nil (k_seq ?_)
  refine t_seq ?_
  refine t_seq ?_
  refine t_reg ?_
  refine st (l_move (o_t rfl) (lt rfl)) ?_
  refine st (l_lens (o_t rfl) sl22 (lt rfl)) ?_
  refine st (l_move (o_t rfl) (lt rfl)) ?_
  refine st (l_cmp (o_t rfl) (o_t rfl) .lss (lt rfl)) ?_
  refine st (l_move (o_t rfl) (lt rfl)) ?_
  rcases bt (decide ((s.length : Int) < least)) with hb2 | hb2
  · rw [if_neg (nt hb2)] at hp_
    refine g_t rfl rfl hb2 ?_
    refine st (l_move (o_t rfl) (lt rfl)) ?_
    refine g_t rfl rfl hb2 ?_
    refine st (l_lens (o_t rfl) sl22 (lt rfl)) ?_
    refine g_t rfl rfl hb2 ?_
    refine st (l_move (o_t rfl) (lt rfl)) ?_
    refine g_t rfl rfl hb2 ?_
    refine st (l_cmp (o_t rfl) (o_t rfl) .gtr (lt rfl)) ?_
    refine st (l_pickf (o_t rfl) hb2 (o_t rfl) (lt rfl)) ?_
    refine st (l_move (o_t rfl) (lt rfl)) ?_
    rcases bt (decide ((s.length : Int) > most)) with hb3 | hb3
    · rw [if_neg (nt hb3)] at hp_
      refine g_t rfl rfl hb3 ?_
      refine st (l_ld (o_t rfl) ty51 (lt rfl)) ?_
      refine g_t rfl rfl hb3 ?_
      refine st (l_move (o_t rfl) (lt rfl)) ?_
      refine g_t rfl rfl hb3 ?_
      obtain ⟨t4, h5, hp_⟩ := bs hp_
      refine st (l_call (ok59 l s _ h5) (.cons (o_t rfl) (.cons (o_t rfl) (.nil))) (lt rfl)) ?_
      refine g_t rfl rfl hb3 ?_
      refine st (l_not (o_t rfl) (lt rfl)) ?_
      refine st (l_pickf (o_t rfl) hb3 (o_t rfl) (lt rfl)) ?_
      refine r_nil (k_seq ?_)
      rcases bt (!t4) with hb6 | hb6
      · rw [if_neg (nt hb6)] at hp_
        refine t_iff (o_t rfl) hb6 ?_
        refine t_skip (k_seq ?_)
        refine t_seq ?_
        refine t_seq ?_
        refine t_reg ?_
        refine st (l_move (o_t rfl) (lt rfl)) ?_
        refine st (l_lens (o_t rfl) sl22 (lt rfl)) ?_
        refine st (l_move (o_i) (lt rfl)) ?_
        refine r_nil (k_seq ?_)
        obtain ⟨res1_, hl1_0, hx1_⟩ := bs hp_
        clear hp_
        refine t_sub (Γ' := [⟨31, vInt .i64, (0 : Int)⟩, ⟨1, kVal.v, seenG⟩, ⟨29, vSlice (kInt .i64), s⟩, ⟨30, vInt .i64, (s.length : Int)⟩]) (Sub.cons rfl (Sub.cons rfl (Sub.cons rfl (Sub.cons rfl (Sub.nil _))))) ?_
        refine t_bloop (β := Nat × Int × (List (Int × Int))) (σ := (List (Int × Int))) (fun x_ => [⟨31, vInt .i64, x_.2.1⟩, ⟨1, kVal.v, seenG⟩, ⟨29, vSlice (kInt .i64), s⟩, ⟨30, vInt .i64, (s.length : Int)⟩]) (fun x_ => [rMap seenG (kInt .i64) (kInt .i64) x_.2.2]) (fun x_ => code_look_own.l1 x_.1 s x_.2.1 x_.2.2 = some res1_) (fun x_ => x_.1) (fun x_ => []) (fun x_ => [rMap seenG (kInt .i64) (kInt .i64) x_]) (fun x_ => res1_ = .go x_) ?_ ?_ ((((s.length : Int) - (0 : Int)).toNat + 1), (0 : Int), seen) hl1_0
        · rintro ⟨k1_, v31_1, w1_1⟩ hl1_
          rcases k1_ with _ | k1_
          · exact absurd (show none = some res1_ from hl1_) (by simp)
          replace hl1_ : code_look_own.l1 (k1_ + 1) s v31_1 w1_1 = some res1_ := hl1_
          rw [code_look_own.l1.eq_2] at hl1_
          show Tr Tryz.prog _ [⟨31, vInt .i64, v31_1⟩, ⟨1, kVal.v, seenG⟩, ⟨29, vSlice (kInt .i64), s⟩, ⟨30, vInt .i64, (s.length : Int)⟩] [rMap seenG (kInt .i64) (kInt .i64) w1_1] _ _
          refine t_seq ?_
          refine t_reg ?_
          refine st (l_cmp (o_t rfl) (o_t rfl) .lss (lt rfl)) ?_
          refine r_nil (k_seq ?_)
          refine t_seq ?_
          rcases bt (decide (v31_1 < (s.length : Int))) with hb7 | hb7
          · rw [if_neg (nt hb7)] at hl1_
            refine t_iff (o_t rfl) hb7 ?_
            exact t_exit (k_te <| k_te <| k_be <| k_brk w1_1 (Option.some.inj hl1_).symm (Sub.nil _) rfl)
          · rw [if_pos hb7] at hl1_
            refine t_ift (o_t rfl) hb7 ?_
            refine t_skip (k_seq ?_)
            refine t_seq ?_
            refine t_blk ?_
            refine t_seq ?_
            refine t_reg ?_
            obtain ⟨t8, h9, hl1_⟩ := bs hl1_
            refine st (l_ia (o_t rfl) (o_t rfl) h9 sl22 sz3 (lt rfl)) ?_
            refine st (l_ld (o_t rfl) ty3 (lt rfl)) ?_
            refine st (l_assign (o_t rfl) (lt rfl)) ?_
            refine r_nil (k_seq ?_)
            refine t_seq ?_
            refine t_reg ?_
            refine st (l_move (o_t rfl) (lt rfl)) ?_
            refine st (l_move (o_t rfl) (lt rfl)) ?_
            refine st (l_lk (i := 0) mp92 (key_int (by kernel_rfl)) zr3 (o_t rfl) (o_t rfl) rfl (lt rfl)) ?_
            refine st (l_bin (o_t rfl) (o_i) .add (lt rfl)) ?_
            refine r_mu (i := 0) (.inl rfl) mp92 (key_int (by kernel_rfl)) (o_t rfl) (o_t rfl) (o_t rfl) rfl ?_
            refine r_nil (k_seq ?_)
            refine t_seq ?_
            refine t_reg ?_
            refine st (l_move (o_t rfl) (lt rfl)) ?_
            refine st (l_move (o_t rfl) (lt rfl)) ?_
            refine st (l_lk (i := 0) mp92 (key_int (by kernel_rfl)) zr3 (o_t rfl) (o_t rfl) rfl (lt rfl)) ?_
            refine st (l_cmp (o_t rfl) (o_i) .gtr (lt rfl)) ?_
            refine r_nil (k_seq ?_)
            rcases bt (decide (((mget (fun x y => x == y) t8 (mset (fun x y => x == y) t8 (IntKind.wrap .i64 (((mget (fun x y => x == y) t8 w1_1).getD 0) + (1 : Int))) w1_1)).getD 0) > (1 : Int))) with hb10 | hb10
            · rw [if_neg (nt hb10)] at hl1_
              refine t_iff (o_t rfl) hb10 ?_
              refine t_skip (k_bn <| k_seq ?_)
              refine t_reg ?_
              refine st (l_bin (o_t rfl) (o_i) .add (lt rfl)) ?_
              refine st (l_move (o_t rfl) (lt rfl)) ?_
              exact r_nil (k_again (k1_, IntKind.wrap .i64 (v31_1 + (1 : Int)), (mset (fun x y => x == y) t8 (IntKind.wrap .i64 (((mget (fun x y => x == y) t8 w1_1).getD 0) + (1 : Int))) w1_1)) hl1_ (Nat.lt_succ_self _) (Sub.cons rfl (Sub.cons rfl (Sub.cons rfl (Sub.cons rfl (Sub.nil _))))) rfl)
            · rw [if_pos hb10] at hl1_
              refine t_ift (o_t rfl) hb10 ?_
              refine t_seq ?_
              refine t_reg ?_
              refine st (l_assign (o_b) (lt rfl)) ?_
              refine r_nil (k_seq ?_)
              cases hl1_
              dsimp only [Ex.elim] at hx1_
              cases hx1_
              exact t_ret (k_br <| k_tr <| k_tr <| k_br <| k_brk_r <| k_tr <| k_ret () rfl rfl rfl rfl rfl)
        · intro s1_ hs1_
          replace hs1_ : res1_ = .go s1_ := hs1_
          subst hs1_
          dsimp only [Ex.elim] at hx1_
          have hp_ := hx1_
          clear hx1_
          show Kx _ [] [rMap seenG (kInt .i64) (kInt .i64) s1_] _ _
          refine k_seq ?_
          refine t_seq ?_
          refine t_reg ?_
          refine st (l_assign (o_b) (lt rfl)) ?_
          refine r_nil (k_seq ?_)
          cases hp_
          exact t_ret (k_ret () rfl rfl rfl rfl rfl)
      · rw [if_pos hb6] at hp_
        refine t_ift (o_t rfl) hb6 ?_
        refine t_seq ?_
        refine t_reg ?_
        refine st (l_assign (o_b) (lt rfl)) ?_
        refine r_nil (k_seq ?_)
        cases hp_
        exact t_ret (k_tr <| k_ret () rfl rfl rfl rfl rfl)
    · rw [if_pos hb3] at hp_
      refine g_n ⟨23, vBool, decide ((s.length : Int) > most)⟩ rfl rfl (noy_b (b := false) hb3) (lt rfl) ?_
      refine g_n ⟨23, vBool, decide ((s.length : Int) > most)⟩ rfl rfl (noy_b (b := false) hb3) (lt rfl) ?_
      refine g_n ⟨23, vBool, decide ((s.length : Int) > most)⟩ rfl rfl (noy_b (b := false) hb3) (lt rfl) ?_
      refine g_n ⟨23, vBool, decide ((s.length : Int) > most)⟩ rfl rfl (noy_b (b := false) hb3) (lt rfl) ?_
      refine st (l_pickt (o_t rfl) hb3 (o_b) (lt rfl)) ?_
      refine r_nil (k_seq ?_)
      refine t_ift (o_t rfl) rfl ?_
      refine t_seq ?_
      refine t_reg ?_
      refine st (l_assign (o_b) (lt rfl)) ?_
      refine r_nil (k_seq ?_)
      cases hp_
      exact t_ret (k_tr <| k_ret () rfl rfl rfl rfl rfl)
  · rw [if_pos hb2] at hp_
    refine g_n ⟨17, vBool, decide ((s.length : Int) < least)⟩ rfl rfl (noy_b (b := false) hb2) (lt rfl) ?_
    refine g_n ⟨17, vBool, decide ((s.length : Int) < least)⟩ rfl rfl (noy_b (b := false) hb2) (lt rfl) ?_
    refine g_n ⟨17, vBool, decide ((s.length : Int) < least)⟩ rfl rfl (noy_b (b := false) hb2) (lt rfl) ?_
    refine g_n ⟨17, vBool, decide ((s.length : Int) < least)⟩ rfl rfl (noy_b (b := false) hb2) (lt rfl) ?_
    refine st (l_pickt (o_t rfl) hb2 (o_b) (lt rfl)) ?_
    refine st (l_move (o_t rfl) (lt rfl)) ?_
    refine g_n ⟨23, vBool, true⟩ rfl rfl (noy_b (b := false) rfl) (lt rfl) ?_
    refine g_n ⟨23, vBool, true⟩ rfl rfl (noy_b (b := false) rfl) (lt rfl) ?_
    refine g_n ⟨23, vBool, true⟩ rfl rfl (noy_b (b := false) rfl) (lt rfl) ?_
    refine g_n ⟨23, vBool, true⟩ rfl rfl (noy_b (b := false) rfl) (lt rfl) ?_
    refine st (l_pickt (o_t rfl) rfl (o_b) (lt rfl)) ?_
    refine r_nil (k_seq ?_)
    refine t_ift (o_t rfl) rfl ?_
    refine t_seq ?_
    refine t_reg ?_
    refine st (l_assign (o_b) (lt rfl)) ?_
    refine r_nil (k_seq ?_)
    cases hp_
    exact t_ret (k_tr <| k_ret () rfl rfl rfl rfl rfl)
-- (pointsman/code.look).wide
theorem ok45 (l : code_look) (n : Int) (w : Int) (y_ : Bool) (hp_ : code_look_wide l n w = some y_) : FP Tryz.prog 45 [⟨(k_code_look).v, l⟩, ⟨vInt .i64, n⟩, ⟨vInt .i64, w⟩] vBool y_ := by
  unfold code_look_wide at hp_
  refine fc_of 20 Tryz.func45 rfl fn45 rfl (Nat.le_of_ble_eq_true rfl) fun I_ w_ F_ => ?_
  refine t_seq ?_
  refine t_reg ?_
  refine st (l_box (o_t rfl) (lt rfl)) ?_
  refine st (l_assign (o_b) (lt rfl)) ?_
  refine r_nil (k_seq ?_)
  refine t_seq ?_
  refine t_reg ?_
  refine st (l_ld (o_t rfl) ty51 (lt rfl)) ?_
  refine st (l_move (o_t rfl) (lt rfl)) ?_
  obtain ⟨t1, h2, hp_⟩ := bs hp_
  refine st (l_call (ok54 l n _ h2) (.cons (o_t rfl) (.cons (o_t rfl) (.nil))) (lt rfl)) ?_
  refine st (l_move (o_t rfl) (lt rfl)) ?_
  rcases bt (t1) with hb3 | hb3
  · rw [if_neg (nt hb3)] at hp_
    refine g_n ⟨10, vBool, t1⟩ rfl rfl (noy_b (b := true) hb3) (lt rfl) ?_
    refine g_n ⟨10, vBool, t1⟩ rfl rfl (noy_b (b := true) hb3) (lt rfl) ?_
    refine g_n ⟨10, vBool, t1⟩ rfl rfl (noy_b (b := true) hb3) (lt rfl) ?_
    refine g_n ⟨10, vBool, t1⟩ rfl rfl (noy_b (b := true) hb3) (lt rfl) ?_
    refine g_n ⟨10, vBool, t1⟩ rfl rfl (noy_b (b := true) hb3) (lt rfl) ?_
    refine g_n ⟨10, vBool, t1⟩ rfl rfl (noy_b (b := true) hb3) (lt rfl) ?_
    refine g_n ⟨10, vBool, t1⟩ rfl rfl (noy_b (b := true) hb3) (lt rfl) ?_
    refine g_n ⟨10, vBool, t1⟩ rfl rfl (noy_b (b := true) hb3) (lt rfl) ?_
    refine st (l_pickf (o_t rfl) hb3 (o_b) (lt rfl)) ?_
    refine st (l_assign (o_t rfl) (lt rfl)) ?_
    refine r_nil (k_seq ?_)
    cases hp_
    exact t_ret (k_ret () rfl rfl rfl rfl rfl)
  · rw [if_pos hb3] at hp_
    refine g_t rfl rfl hb3 ?_
    refine st (l_fa (o_t rfl) fl_code_look_0 fa51_0 (lt rfl)) ?_
    refine g_t rfl rfl hb3 ?_
    refine st (l_fa (o_t rfl) fl_aCode_0 fa30_0 (lt rfl)) ?_
    refine g_t rfl rfl hb3 ?_
    refine st (l_ld (o_t rfl) ty22 (lt rfl)) ?_
    refine g_t rfl rfl hb3 ?_
    refine st (l_move (o_t rfl) (lt rfl)) ?_
    refine g_t rfl rfl hb3 ?_
    obtain ⟨t4, h5, hp_⟩ := bs hp_
    refine st (l_ia (o_t rfl) (o_t rfl) h5 sl22 sz3 (lt rfl)) ?_
    refine g_t rfl rfl hb3 ?_
    refine st (l_ld (o_t rfl) ty3 (lt rfl)) ?_
    refine g_t rfl rfl hb3 ?_
    refine st (l_move (o_t rfl) (lt rfl)) ?_
    refine g_t rfl rfl hb3 ?_
    refine st (l_cmp (o_t rfl) (o_t rfl) .eql (lt rfl)) ?_
    refine st (l_pickt (o_t rfl) hb3 (o_t rfl) (lt rfl)) ?_
    refine st (l_assign (o_t rfl) (lt rfl)) ?_
    refine r_nil (k_seq ?_)
    cases hp_
    exact t_ret (k_ret () rfl rfl rfl rfl rfl)
-- (pointsman/code.look).slotted$2
theorem ok46_0 (a : aAct) (p1 : code_look) (p2 : List (Int × Int)) (p2G : Value) (y_ : Bool × (List (Int × Int))) (hp_ : code_look_slotted_2 a p1 p2 = some y_) : FC Tryz.prog 46 [⟨(k_aAct).v, a⟩, ⟨vPtr k_code_look, p1⟩, ⟨vPtr kVal, p2G⟩] [rMap p2G (kInt .i64) (kInt .i64) p2] (fun _ : Unit => .ret vBool y_.1) (fun _ => [rMap p2G (kInt .i64) (kInt .i64) y_.2]) := by
  unfold code_look_slotted_2 at hp_
  refine fc_of 11 Tryz.func46 rfl fn46 rfl (Nat.le_of_ble_eq_true rfl) fun I_ w_ F_ => ?_
  refine t_seq ?_
  refine t_reg ?_
  refine st (l_box (o_t rfl) (lt rfl)) ?_
  refine st (l_assign (o_b) (lt rfl)) ?_
  refine r_nil (k_seq ?_)
  refine t_seq ?_
  refine t_reg ?_
  refine st (l_ld (o_t rfl) ty51 (lt rfl)) ?_
  refine st (l_ld (o_t rfl) tv92 (lt rfl)) ?_
  refine st (l_fa (o_t rfl) fl_aAct_1 fa41_1 (lt rfl)) ?_
  refine st (l_ld (o_t rfl) ty22 (lt rfl)) ?_
  obtain ⟨t2, h3, hp_⟩ := bs hp_
  refine st (l_callm (Δ2 := [rMap p2G (kInt .i64) (kInt .i64) t2.2]) (ok44_0 p1 p2 a.Params (0 : Int) (64 : Int) p2G _ h3) (.cons (o_t rfl) (.cons (o_t rfl) (.cons (o_t rfl) (.cons (o_i) (.cons (o_i) (.nil)))))) (pm_take 0 rfl pm_nil) (pr_take 0 rfl pr_nil) (lt rfl)) ?_
  refine st (l_not (o_t rfl) (lt rfl)) ?_
  refine st (l_assign (o_t rfl) (lt rfl)) ?_
  refine r_nil (k_seq ?_)
  cases hp_
  exact t_ret (k_ret () rfl rfl rfl rfl rfl)
-- slices.IndexFunc[[]pointsman/api.Act,pointsman/api.Act]
theorem ok62_0 (s : List aAct) (p1 : code_look) (p2 : List (Int × Int)) (p2G : Value) (y_ : Int × (List (Int × Int))) (hp_ : slices_IndexFunc s p1 p2 = some y_) : FC Tryz.prog 62 [⟨vSlice k_aAct, s⟩, ⟨vKn 46 [] [⟨vPtr k_code_look, p1⟩, ⟨vPtr kVal, p2G⟩], ()⟩] [rMap p2G (kInt .i64) (kInt .i64) p2] (fun _ : Unit => .ret (vInt .i64) y_.1) (fun _ => [rMap p2G (kInt .i64) (kInt .i64) y_.2]) := by
  unfold slices_IndexFunc at hp_
  refine fc_of 19 Tryz.func62 rfl fn62 rfl (Nat.le_of_ble_eq_true rfl) fun I_ w_ F_ => ?_
  refine t_seq ?_
  refine t_reg ?_
  refine st (l_assign (o_i) (lt rfl)) ?_
  refine r_nil (k_seq ?_)
  refine t_seq ?_
  refine t_seq ?_
  refine t_reg ?_
  refine st (l_move (o_t rfl) (lt rfl)) ?_
  refine st (l_lens (o_t rfl) sl26 (lt rfl)) ?_
  refine st (l_move (o_i) (lt rfl)) ?_
  refine r_nil (k_seq ?_)
  obtain ⟨res1_, hl1_0, hx1_⟩ := bs hp_
  clear hp_
  refine t_sub (Γ' := [⟨8, vInt .i64, (0 : Int)⟩, ⟨0, vSlice k_aAct, s⟩, ⟨1, vKn 46 [] [⟨vPtr k_code_look, p1⟩, ⟨vPtr kVal, p2G⟩], ()⟩, ⟨7, vInt .i64, (s.length : Int)⟩]) (Sub.cons rfl (Sub.cons rfl (Sub.cons rfl (Sub.cons rfl (Sub.nil _))))) ?_
  refine t_bloop (β := Nat × Int × (List (Int × Int))) (σ := (List (Int × Int))) (fun x_ => [⟨8, vInt .i64, x_.2.1⟩, ⟨0, vSlice k_aAct, s⟩, ⟨1, vKn 46 [] [⟨vPtr k_code_look, p1⟩, ⟨vPtr kVal, p2G⟩], ()⟩, ⟨7, vInt .i64, (s.length : Int)⟩]) (fun x_ => [rMap p2G (kInt .i64) (kInt .i64) x_.2.2]) (fun x_ => slices_IndexFunc.l1 x_.1 s p1 x_.2.1 x_.2.2 = some res1_) (fun x_ => x_.1) (fun x_ => []) (fun x_ => [rMap p2G (kInt .i64) (kInt .i64) x_]) (fun x_ => res1_ = .go x_) ?_ ?_ ((((s.length : Int) - (0 : Int)).toNat + 1), (0 : Int), p2) hl1_0
  · rintro ⟨k1_, v8_1, w1_1⟩ hl1_
    rcases k1_ with _ | k1_
    · exact absurd (show none = some res1_ from hl1_) (by simp)
    replace hl1_ : slices_IndexFunc.l1 (k1_ + 1) s p1 v8_1 w1_1 = some res1_ := hl1_
    rw [slices_IndexFunc.l1.eq_2] at hl1_
    show Tr Tryz.prog _ [⟨8, vInt .i64, v8_1⟩, ⟨0, vSlice k_aAct, s⟩, ⟨1, vKn 46 [] [⟨vPtr k_code_look, p1⟩, ⟨vPtr kVal, p2G⟩], ()⟩, ⟨7, vInt .i64, (s.length : Int)⟩] [rMap p2G (kInt .i64) (kInt .i64) w1_1] _ _
    refine t_seq ?_
    refine t_reg ?_
    refine st (l_cmp (o_t rfl) (o_t rfl) .lss (lt rfl)) ?_
    refine r_nil (k_seq ?_)
    refine t_seq ?_
    rcases bt (decide (v8_1 < (s.length : Int))) with hb2 | hb2
    · rw [if_neg (nt hb2)] at hl1_
      refine t_iff (o_t rfl) hb2 ?_
      exact t_exit (k_te <| k_te <| k_be <| k_brk w1_1 (Option.some.inj hl1_).symm (Sub.nil _) rfl)
    · rw [if_pos hb2] at hl1_
      refine t_ift (o_t rfl) hb2 ?_
      refine t_skip (k_seq ?_)
      refine t_seq ?_
      refine t_blk ?_
      refine t_seq ?_
      refine t_reg ?_
      refine st (l_move (o_t rfl) (lt rfl)) ?_
      refine st (l_assign (o_t rfl) (lt rfl)) ?_
      refine r_nil (k_seq ?_)
      refine t_seq ?_
      refine t_reg ?_
      refine st (l_move (o_t rfl) (lt rfl)) ?_
      refine st (l_move (o_t rfl) (lt rfl)) ?_
      refine st (l_move (o_t rfl) (lt rfl)) ?_
      obtain ⟨t3, h4, hl1_⟩ := bs hl1_
      refine st (l_ia (o_t rfl) (o_t rfl) h4 sl26 sz41 (lt rfl)) ?_
      refine st (l_ld (o_t rfl) ty41 (lt rfl)) ?_
      obtain ⟨t5, h6, hl1_⟩ := bs hl1_
      refine st (l_callk (Δ2 := [rMap p2G (kInt .i64) (kInt .i64) t5.2]) (o_t rfl) (ok46_0 t3 p1 w1_1 p2G _ h6) (.cons (o_t rfl) (.nil)) (pm_take 0 rfl pm_nil) (pr_take 0 rfl pr_nil) (lt rfl)) ?_
      refine r_nil (k_seq ?_)
      rcases bt (t5.1) with hb7 | hb7
      · rw [if_neg (nt hb7)] at hl1_
        refine t_iff (o_t rfl) hb7 ?_
        refine t_skip (k_bn <| k_seq ?_)
        refine t_reg ?_
        refine st (l_bin (o_t rfl) (o_i) .add (lt rfl)) ?_
        refine st (l_move (o_t rfl) (lt rfl)) ?_
        exact r_nil (k_again (k1_, IntKind.wrap .i64 (v8_1 + (1 : Int)), t5.2) hl1_ (Nat.lt_succ_self _) (Sub.cons rfl (Sub.cons rfl (Sub.cons rfl (Sub.cons rfl (Sub.nil _))))) rfl)
      · rw [if_pos hb7] at hl1_
        refine t_ift (o_t rfl) hb7 ?_
        refine t_seq ?_
        refine t_reg ?_
        refine st (l_move (o_t rfl) (lt rfl)) ?_
        refine st (l_assign (o_t rfl) (lt rfl)) ?_
        refine r_nil (k_seq ?_)
        cases hl1_
        dsimp only [Ex.elim] at hx1_
        cases hx1_
        exact t_ret (k_br <| k_tr <| k_tr <| k_br <| k_brk_r <| k_tr <| k_ret () rfl rfl rfl rfl rfl)
  · intro s1_ hs1_
    replace hs1_ : res1_ = .go s1_ := hs1_
    subst hs1_
    dsimp only [Ex.elim] at hx1_
    have hp_ := hx1_
    clear hx1_
    show Kx _ [] [rMap p2G (kInt .i64) (kInt .i64) s1_] _ _
    refine k_seq ?_
    refine t_seq ?_
    refine t_reg ?_
    refine st (l_assign (o_i) (lt rfl)) ?_
    refine r_nil (k_seq ?_)
    cases hp_
    exact t_ret (k_ret () rfl rfl rfl rfl rfl)
-- slices.ContainsFunc[[]pointsman/api.Act,pointsman/api.Act]
theorem ok26_0 (s : List aAct) (p1 : code_look) (p2 : List (Int × Int)) (p2G : Value) (y_ : Bool × (List (Int × Int))) (hp_ : slices_ContainsFunc s p1 p2 = some y_) : FC Tryz.prog 26 [⟨vSlice k_aAct, s⟩, ⟨vKn 46 [] [⟨vPtr k_code_look, p1⟩, ⟨vPtr kVal, p2G⟩], ()⟩] [rMap p2G (kInt .i64) (kInt .i64) p2] (fun _ : Unit => .ret vBool y_.1) (fun _ => [rMap p2G (kInt .i64) (kInt .i64) y_.2]) := by
  unfold slices_ContainsFunc at hp_
  refine fc_of 9 Tryz.func26 rfl fn26 rfl (Nat.le_of_ble_eq_true rfl) fun I_ w_ F_ => ?_
  refine t_seq ?_
  refine t_reg ?_
  refine st (l_assign (o_b) (lt rfl)) ?_
  refine r_nil (k_seq ?_)
  refine t_seq ?_
  refine t_reg ?_
  refine st (l_move (o_t rfl) (lt rfl)) ?_
  refine st (l_move (o_t rfl) (lt rfl)) ?_
  obtain ⟨t2, h3, hp_⟩ := bs hp_
  refine st (l_callm (Δ2 := [rMap p2G (kInt .i64) (kInt .i64) t2.2]) (ok62_0 s p1 p2 p2G _ h3) (.cons (o_t rfl) (.cons (o_t rfl) (.nil))) (pm_take 0 rfl pm_nil) (pr_take 0 rfl pr_nil) (lt rfl)) ?_
  refine st (l_cmp (o_t rfl) (o_i) .geq (lt rfl)) ?_
  refine st (l_assign (o_t rfl) (lt rfl)) ?_
  refine r_nil (k_seq ?_)
  cases hp_
  exact t_ret (k_ret () rfl rfl rfl rfl rfl)
-- (pointsman/code.look).slotted
theorem ok15 (p0 : code_look) (y_ : Bool) (hp_ : code_look_slotted p0 = some y_) : FP Tryz.prog 15 [⟨(k_code_look).v, p0⟩] vBool y_ := by
  unfold code_look_slotted at hp_
  refine fc_of 95 Tryz.func15 rfl fn15 rfl (Nat.le_of_ble_eq_true rfl) fun I_ w_ F_ => ?_
  refine t_seq ?_
  refine t_reg ?_
  refine st (l_box (o_t rfl) (lt rfl)) ?_
  refine st (l_assign (o_b) (lt rfl)) ?_
  refine r_nil (k_seq ?_)
  refine t_seq ?_
  refine t_reg ?_
  refine st (l_fa (o_t rfl) fl_code_look_0 fa51_0 (lt rfl)) ?_
  refine st (l_ld (o_t rfl) ty30 (lt rfl)) ?_
  refine r_als zr30 (o_t rfl) rfl sz30 (lt rfl) ?_
  refine r_nil (k_seq ?_)
  refine t_seq ?_
  refine t_seq ?_
  refine t_reg ?_
  refine st (l_fa (o_t rfl) fl_aCode_0 fa30_0 (lt rfl)) ?_
  refine st (l_ld (o_t rfl) ty22 (lt rfl)) ?_
  refine st (l_lens (o_t rfl) sl22 (lt rfl)) ?_
  refine st (l_cmp (o_t rfl) (o_i) .gtr (lt rfl)) ?_
  refine st (l_move (o_t rfl) (lt rfl)) ?_
  rcases bt (decide ((p0.c.Slots.length : Int) > (65536 : Int))) with hb1 | hb1
  · rw [if_neg (nt hb1)] at hp_
    refine g_t rfl rfl hb1 ?_
    refine st (l_fa (o_t rfl) fl_aCode_0 fa30_0 (lt rfl)) ?_
    refine g_t rfl rfl hb1 ?_
    refine st (l_ld (o_t rfl) ty22 (lt rfl)) ?_
    refine g_t rfl rfl hb1 ?_
    obtain ⟨t2, h3, hp_⟩ := bs hp_
    refine st (l_call (ok42 p0.c.Slots (fun x_ : Int => code_look_slotted_1 x_) _ h3) (.cons (o_t rfl) (.cons (o_clo (o_fk) fn43 (fun x_ y h => ok43 x_ _ h)) (.nil))) (lt rfl)) ?_
    refine st (l_pickf (o_t rfl) hb1 (o_t rfl) (lt rfl)) ?_
    refine r_nil (k_seq ?_)
    rcases bt (t2) with hb4 | hb4
    · rw [if_neg (nt hb4)] at hp_
      refine t_iff (o_t rfl) hb4 ?_
      refine t_skip (k_seq ?_)
      refine t_seq ?_
      refine t_reg ?_
      refine r_mkmap (K := kInt .i64) (V := kInt .i64) (lt rfl) (fun o5 => ?_)
      refine r_als zv92 (o_t rfl) rfl sv92 (lt rfl) ?_
      refine r_nil (k_seq ?_)
      refine t_seq ?_
      refine t_seq ?_
      rcases bt (decide ((p0.c.Heads.length : Int) > (256 : Int))) with hb7 | hb7
      · rw [if_neg (nt hb7)] at hp_
        rcases bt (decide ((p0.c.Acts.length : Int) > (256 : Int))) with hb8 | hb8
        · rw [if_neg (nt hb8)] at hp_
          obtain ⟨t9, h10, hp_⟩ := bs hp_
          rcases bt (!t9.1) with hb11 | hb11
          · rw [if_neg (nt hb11)] at hp_
            obtain ⟨t12, h13, hp_⟩ := bs hp_
            obtain ⟨t14, h15, hp_⟩ := bs hp_
            rcases bt (!t14) with hb16 | hb16
            · rw [if_neg (nt hb16)] at hp_
              obtain ⟨t17, h18, hp_⟩ := bs hp_
              obtain ⟨t19, h20, hp_⟩ := bs hp_
              refine t_draw [(0, fun gs_ => some ⟨22, vPtr (kSlice k_aHead), p0.c.Heads⟩), (0, fun gs_ => some ⟨23, vSlice k_aHead, p0.c.Heads⟩), (0, fun gs_ => some ⟨24, vInt .i64, (p0.c.Heads.length : Int)⟩), (0, fun gs_ => some ⟨25, vBool, decide ((p0.c.Heads.length : Int) > (256 : Int))⟩), (0, fun gs_ => some ⟨26, vBool, decide ((p0.c.Heads.length : Int) > (256 : Int))⟩), (0, fun gs_ => some ⟨27, vPtr (kSlice k_aAct), p0.c.Acts⟩), (0, fun gs_ => some ⟨28, vSlice k_aAct, p0.c.Acts⟩), (0, fun gs_ => some ⟨29, vInt .i64, (p0.c.Acts.length : Int)⟩), (0, fun gs_ => some ⟨30, vBool, decide ((p0.c.Acts.length : Int) > (256 : Int))⟩), (0, fun gs_ => some ⟨31, vBool, decide ((p0.c.Acts.length : Int) > (256 : Int))⟩), (0, fun gs_ => some ⟨32, vBool, decide ((p0.c.Acts.length : Int) > (256 : Int))⟩), (0, fun gs_ => some ⟨33, (k_code_look).v, p0⟩), (0, fun gs_ => some ⟨34, kVal.v, o5⟩), (0, fun gs_ => some ⟨35, vPtr (kSlice (kInt .i64)), p0.c.Meta⟩), (0, fun gs_ => some ⟨36, vSlice (kInt .i64), p0.c.Meta⟩), (1, fun gs_ => some ⟨37, vBool, t9.1⟩), (1, fun gs_ => some ⟨38, vBool, !t9.1⟩), (1, fun gs_ => some ⟨39, vBool, !t9.1⟩), (1, fun gs_ => some ⟨40, vBool, !t9.1⟩), (1, fun gs_ => some ⟨41, (k_code_look).v, p0⟩), (1, fun gs_ => some ⟨42, vPtr (kSlice (kInt .i64)), p0.c.Meta⟩), (1, fun gs_ => some ⟨43, vSlice (kInt .i64), p0.c.Meta⟩), (1, fun gs_ => some ⟨44, vPtr (kInt .i64), t12⟩), (1, fun gs_ => some ⟨45, vInt .i64, t12⟩), (1, fun gs_ => some ⟨46, vBool, t14⟩), (1, fun gs_ => some ⟨47, vBool, !t14⟩), (1, fun gs_ => some ⟨48, vBool, !t14⟩), (1, fun gs_ => some ⟨49, vBool, !t14⟩), (1, fun gs_ => some ⟨50, (k_code_look).v, p0⟩), (1, fun gs_ => some ⟨51, vPtr (kSlice (kInt .i64)), p0.c.Meta⟩), (1, fun gs_ => some ⟨52, vSlice (kInt .i64), p0.c.Meta⟩), (1, fun gs_ => some ⟨53, vPtr (kInt .i64), t17⟩), (1, fun gs_ => some ⟨54, vInt .i64, t17⟩), (1, fun gs_ => some ⟨55, vBool, t19⟩), (1, fun gs_ => some ⟨56, vBool, !t19⟩), (1, fun gs_ => some ⟨57, vBool, !t19⟩)] mixed rfl rfl (fun gs_ => [] ++ ph gs_ [fun gs_ => [rMap o5 (kInt .i64) (kInt .i64) []], fun gs_ => [rMap o5 (kInt .i64) (kInt .i64) t9.2]]) [15] rfl (.x (f := fun gs_ => ⟨22, vPtr (kSlice k_aHead), p0.c.Heads⟩) 0 (fun gs_ => [⟨3, vPtr k_aCode, p0.c⟩]) rfl (fun gs_ => l_fa (o_t rfl) fl_aCode_1 fa30_1 (lt rfl)) (fun gs_ => .b rfl rfl (.nil)) .n (fun _ => rfl) rfl (fun _ _ _ => rfl) (.x (f := fun gs_ => ⟨23, vSlice k_aHead, p0.c.Heads⟩) 0 (fun gs_ => [⟨22, vPtr (kSlice k_aHead), p0.c.Heads⟩]) rfl (fun gs_ => l_ld (o_t rfl) ty23 (lt rfl)) (fun gs_ => .d 0 rfl rfl (.nil)) .n (fun _ => rfl) rfl (fun _ _ _ => rfl) (.x (f := fun gs_ => ⟨24, vInt .i64, (p0.c.Heads.length : Int)⟩) 0 (fun gs_ => [⟨23, vSlice k_aHead, p0.c.Heads⟩]) rfl (fun gs_ => l_lens (o_t rfl) sl23 (lt rfl)) (fun gs_ => .d 1 rfl rfl (.nil)) .n (fun _ => rfl) rfl (fun _ _ _ => rfl) (.x (f := fun gs_ => ⟨25, vBool, decide ((p0.c.Heads.length : Int) > (256 : Int))⟩) 0 (fun gs_ => [⟨24, vInt .i64, (p0.c.Heads.length : Int)⟩]) rfl (fun gs_ => l_cmp (o_t rfl) (o_i) .gtr (lt rfl)) (fun gs_ => .d 2 rfl rfl (.nil)) .n (fun _ => rfl) rfl (fun _ _ _ => rfl) (.x (f := fun gs_ => ⟨26, vBool, decide ((p0.c.Heads.length : Int) > (256 : Int))⟩) 0 (fun gs_ => [⟨25, vBool, decide ((p0.c.Heads.length : Int) > (256 : Int))⟩]) rfl (fun gs_ => l_move (o_t rfl) (lt rfl)) (fun gs_ => .d 3 rfl rfl (.nil)) .n (fun _ => rfl) rfl (fun _ _ _ => rfl) (.x (f := fun gs_ => ⟨27, vPtr (kSlice k_aAct), p0.c.Acts⟩) 0 (fun gs_ => [⟨3, vPtr k_aCode, p0.c⟩]) rfl (fun gs_ => l_fa (o_t rfl) fl_aCode_5 fa30_5 (lt rfl)) (fun gs_ => .b rfl rfl (.nil)) (.s rfl (fun gs_ => .d 4 rfl rfl (.nil)) hb7) (fun _ => rfl) rfl (fun _ _ _ => rfl) (.x (f := fun gs_ => ⟨28, vSlice k_aAct, p0.c.Acts⟩) 0 (fun gs_ => [⟨27, vPtr (kSlice k_aAct), p0.c.Acts⟩]) rfl (fun gs_ => l_ld (o_t rfl) ty26 (lt rfl)) (fun gs_ => .d 5 rfl rfl (.nil)) (.s rfl (fun gs_ => .d 4 rfl rfl (.nil)) hb7) (fun _ => rfl) rfl (fun _ _ _ => rfl) (.x (f := fun gs_ => ⟨29, vInt .i64, (p0.c.Acts.length : Int)⟩) 0 (fun gs_ => [⟨28, vSlice k_aAct, p0.c.Acts⟩]) rfl (fun gs_ => l_lens (o_t rfl) sl26 (lt rfl)) (fun gs_ => .d 6 rfl rfl (.nil)) (.s rfl (fun gs_ => .d 4 rfl rfl (.nil)) hb7) (fun _ => rfl) rfl (fun _ _ _ => rfl) (.x (f := fun gs_ => ⟨30, vBool, decide ((p0.c.Acts.length : Int) > (256 : Int))⟩) 0 (fun gs_ => [⟨29, vInt .i64, (p0.c.Acts.length : Int)⟩]) rfl (fun gs_ => l_cmp (o_t rfl) (o_i) .gtr (lt rfl)) (fun gs_ => .d 7 rfl rfl (.nil)) (.s rfl (fun gs_ => .d 4 rfl rfl (.nil)) hb7) (fun _ => rfl) rfl (fun _ _ _ => rfl) (.x (f := fun gs_ => ⟨31, vBool, decide ((p0.c.Acts.length : Int) > (256 : Int))⟩) 0 (fun gs_ => [⟨26, vBool, decide ((p0.c.Heads.length : Int) > (256 : Int))⟩, ⟨30, vBool, decide ((p0.c.Acts.length : Int) > (256 : Int))⟩]) rfl (fun gs_ => l_pickf (o_t rfl) hb7 (o_t rfl) (lt rfl)) (fun gs_ => .d 4 rfl rfl (.d 8 rfl rfl (.nil))) .n (fun _ => rfl) rfl (fun _ _ _ => rfl) (.x (f := fun gs_ => ⟨32, vBool, decide ((p0.c.Acts.length : Int) > (256 : Int))⟩) 0 (fun gs_ => [⟨31, vBool, decide ((p0.c.Acts.length : Int) > (256 : Int))⟩]) rfl (fun gs_ => l_move (o_t rfl) (lt rfl)) (fun gs_ => .d 9 rfl rfl (.nil)) .n (fun _ => rfl) rfl (fun _ _ _ => rfl) (.x (f := fun gs_ => ⟨33, (k_code_look).v, p0⟩) 0 (fun gs_ => [⟨1, vPtr k_code_look, p0⟩]) rfl (fun gs_ => l_ld (o_t rfl) ty51 (lt rfl)) (fun gs_ => .b rfl rfl (.nil)) (.s rfl (fun gs_ => .d 10 rfl rfl (.nil)) hb8) (fun _ => rfl) rfl (fun _ _ _ => rfl) (.x (f := fun gs_ => ⟨34, kVal.v, o5⟩) 0 (fun gs_ => [⟨4, vPtr kVal, o5⟩]) rfl (fun gs_ => l_ld (o_t rfl) tv92 (lt rfl)) (fun gs_ => .b rfl rfl (.nil)) (.s rfl (fun gs_ => .d 10 rfl rfl (.nil)) hb8) (fun _ => rfl) rfl (fun _ _ _ => rfl) (.x (f := fun gs_ => ⟨35, vPtr (kSlice (kInt .i64)), p0.c.Meta⟩) 0 (fun gs_ => [⟨3, vPtr k_aCode, p0.c⟩]) rfl (fun gs_ => l_fa (o_t rfl) fl_aCode_2 fa30_2 (lt rfl)) (fun gs_ => .b rfl rfl (.nil)) (.s rfl (fun gs_ => .d 10 rfl rfl (.nil)) hb8) (fun _ => rfl) rfl (fun _ _ _ => rfl) (.x (f := fun gs_ => ⟨36, vSlice (kInt .i64), p0.c.Meta⟩) 0 (fun gs_ => [⟨35, vPtr (kSlice (kInt .i64)), p0.c.Meta⟩]) rfl (fun gs_ => l_ld (o_t rfl) ty22 (lt rfl)) (fun gs_ => .d 13 rfl rfl (.nil)) (.s rfl (fun gs_ => .d 10 rfl rfl (.nil)) hb8) (fun _ => rfl) rfl (fun _ _ _ => rfl) (.e (f := fun gs_ => some ⟨37, vBool, t9.1⟩) 0 (fun gs_ => [⟨33, (k_code_look).v, p0⟩, ⟨34, kVal.v, o5⟩, ⟨36, vSlice (kInt .i64), p0.c.Meta⟩]) rfl (fun gs_ hg_ => by obtain rfl := len0 hg_; show LocX _ _ _ [rMap o5 (kInt .i64) (kInt .i64) []] _ (fun gh900_ => some ⟨37, vBool, t9.1⟩) (fun gh900_ => [rMap o5 (kInt .i64) (kInt .i64) t9.2]); exact lx (lf (l_callm (Δ2 := [rMap o5 (kInt .i64) (kInt .i64) t9.2]) (ok44_0 p0 [] p0.c.Meta (2 : Int) (66 : Int) o5 _ h10) (.cons (o_t rfl) (.cons (o_t rfl) (.cons (o_t rfl) (.cons (o_i) (.cons (o_i) (.nil)))))) (pm_take 0 rfl pm_nil) (pr_take 0 rfl pr_nil) (lt rfl)))) (fun gs_ => .d 11 rfl rfl (.d 12 rfl rfl (.d 14 rfl rfl (.nil)))) (.s rfl (fun gs_ => .d 10 rfl rfl (.nil)) hb8) (fun _ => rfl) rfl (fun _ _ _ => rfl) (.x (f := fun gs_ => ⟨38, vBool, !t9.1⟩) 1 (fun gs_ => [⟨37, vBool, t9.1⟩]) rfl (fun gs_ => l_not (o_t rfl) (lt rfl)) (fun gs_ => .d 15 rfl rfl (.nil)) (.s rfl (fun gs_ => .d 10 rfl rfl (.nil)) hb8) (fun _ => rfl) rfl (fun _ _ _ => rfl) (.x (f := fun gs_ => ⟨39, vBool, !t9.1⟩) 1 (fun gs_ => [⟨32, vBool, decide ((p0.c.Acts.length : Int) > (256 : Int))⟩, ⟨38, vBool, !t9.1⟩]) rfl (fun gs_ => l_pickf (o_t rfl) hb8 (o_t rfl) (lt rfl)) (fun gs_ => .d 10 rfl rfl (.d 16 rfl rfl (.nil))) .n (fun _ => rfl) rfl (fun _ _ _ => rfl) (.x (f := fun gs_ => ⟨40, vBool, !t9.1⟩) 1 (fun gs_ => [⟨39, vBool, !t9.1⟩]) rfl (fun gs_ => l_move (o_t rfl) (lt rfl)) (fun gs_ => .d 17 rfl rfl (.nil)) .n (fun _ => rfl) rfl (fun _ _ _ => rfl) (.x (f := fun gs_ => ⟨41, (k_code_look).v, p0⟩) 1 (fun gs_ => [⟨1, vPtr k_code_look, p0⟩]) rfl (fun gs_ => l_ld (o_t rfl) ty51 (lt rfl)) (fun gs_ => .b rfl rfl (.nil)) (.s rfl (fun gs_ => .d 18 rfl rfl (.nil)) hb11) (fun _ => rfl) rfl (fun _ _ _ => rfl) (.x (f := fun gs_ => ⟨42, vPtr (kSlice (kInt .i64)), p0.c.Meta⟩) 1 (fun gs_ => [⟨3, vPtr k_aCode, p0.c⟩]) rfl (fun gs_ => l_fa (o_t rfl) fl_aCode_2 fa30_2 (lt rfl)) (fun gs_ => .b rfl rfl (.nil)) (.s rfl (fun gs_ => .d 18 rfl rfl (.nil)) hb11) (fun _ => rfl) rfl (fun _ _ _ => rfl) (.x (f := fun gs_ => ⟨43, vSlice (kInt .i64), p0.c.Meta⟩) 1 (fun gs_ => [⟨42, vPtr (kSlice (kInt .i64)), p0.c.Meta⟩]) rfl (fun gs_ => l_ld (o_t rfl) ty22 (lt rfl)) (fun gs_ => .d 20 rfl rfl (.nil)) (.s rfl (fun gs_ => .d 18 rfl rfl (.nil)) hb11) (fun _ => rfl) rfl (fun _ _ _ => rfl) (.x (f := fun gs_ => ⟨44, vPtr (kInt .i64), t12⟩) 1 (fun gs_ => [⟨43, vSlice (kInt .i64), p0.c.Meta⟩]) rfl (fun gs_ => l_ia (o_t rfl) (o_i) h13 sl22 sz3 (lt rfl)) (fun gs_ => .d 21 rfl rfl (.nil)) (.s rfl (fun gs_ => .d 18 rfl rfl (.nil)) hb11) (fun _ => rfl) rfl (fun _ _ _ => rfl) (.x (f := fun gs_ => ⟨45, vInt .i64, t12⟩) 1 (fun gs_ => [⟨44, vPtr (kInt .i64), t12⟩]) rfl (fun gs_ => l_ld (o_t rfl) ty3 (lt rfl)) (fun gs_ => .d 22 rfl rfl (.nil)) (.s rfl (fun gs_ => .d 18 rfl rfl (.nil)) hb11) (fun _ => rfl) rfl (fun _ _ _ => rfl) (.x (f := fun gs_ => ⟨46, vBool, t14⟩) 1 (fun gs_ => [⟨41, (k_code_look).v, p0⟩, ⟨45, vInt .i64, t12⟩]) rfl (fun gs_ => l_call (ok45 p0 t12 (16 : Int) _ h15) (.cons (o_t rfl) (.cons (o_t rfl) (.cons (o_i) (.nil)))) (lt rfl)) (fun gs_ => .d 19 rfl rfl (.d 23 rfl rfl (.nil))) (.s rfl (fun gs_ => .d 18 rfl rfl (.nil)) hb11) (fun _ => rfl) rfl (fun _ _ _ => rfl) (.x (f := fun gs_ => ⟨47, vBool, !t14⟩) 1 (fun gs_ => [⟨46, vBool, t14⟩]) rfl (fun gs_ => l_not (o_t rfl) (lt rfl)) (fun gs_ => .d 24 rfl rfl (.nil)) (.s rfl (fun gs_ => .d 18 rfl rfl (.nil)) hb11) (fun _ => rfl) rfl (fun _ _ _ => rfl) (.x (f := fun gs_ => ⟨48, vBool, !t14⟩) 1 (fun gs_ => [⟨40, vBool, !t9.1⟩, ⟨47, vBool, !t14⟩]) rfl (fun gs_ => l_pickf (o_t rfl) hb11 (o_t rfl) (lt rfl)) (fun gs_ => .d 18 rfl rfl (.d 25 rfl rfl (.nil))) .n (fun _ => rfl) rfl (fun _ _ _ => rfl) (.x (f := fun gs_ => ⟨49, vBool, !t14⟩) 1 (fun gs_ => [⟨48, vBool, !t14⟩]) rfl (fun gs_ => l_move (o_t rfl) (lt rfl)) (fun gs_ => .d 26 rfl rfl (.nil)) .n (fun _ => rfl) rfl (fun _ _ _ => rfl) (.x (f := fun gs_ => ⟨50, (k_code_look).v, p0⟩) 1 (fun gs_ => [⟨1, vPtr k_code_look, p0⟩]) rfl (fun gs_ => l_ld (o_t rfl) ty51 (lt rfl)) (fun gs_ => .b rfl rfl (.nil)) (.s rfl (fun gs_ => .d 27 rfl rfl (.nil)) hb16) (fun _ => rfl) rfl (fun _ _ _ => rfl) (.x (f := fun gs_ => ⟨51, vPtr (kSlice (kInt .i64)), p0.c.Meta⟩) 1 (fun gs_ => [⟨3, vPtr k_aCode, p0.c⟩]) rfl (fun gs_ => l_fa (o_t rfl) fl_aCode_2 fa30_2 (lt rfl)) (fun gs_ => .b rfl rfl (.nil)) (.s rfl (fun gs_ => .d 27 rfl rfl (.nil)) hb16) (fun _ => rfl) rfl (fun _ _ _ => rfl) (.x (f := fun gs_ => ⟨52, vSlice (kInt .i64), p0.c.Meta⟩) 1 (fun gs_ => [⟨51, vPtr (kSlice (kInt .i64)), p0.c.Meta⟩]) rfl (fun gs_ => l_ld (o_t rfl) ty22 (lt rfl)) (fun gs_ => .d 29 rfl rfl (.nil)) (.s rfl (fun gs_ => .d 27 rfl rfl (.nil)) hb16) (fun _ => rfl) rfl (fun _ _ _ => rfl) (.x (f := fun gs_ => ⟨53, vPtr (kInt .i64), t17⟩) 1 (fun gs_ => [⟨52, vSlice (kInt .i64), p0.c.Meta⟩]) rfl (fun gs_ => l_ia (o_t rfl) (o_i) h18 sl22 sz3 (lt rfl)) (fun gs_ => .d 30 rfl rfl (.nil)) (.s rfl (fun gs_ => .d 27 rfl rfl (.nil)) hb16) (fun _ => rfl) rfl (fun _ _ _ => rfl) (.x (f := fun gs_ => ⟨54, vInt .i64, t17⟩) 1 (fun gs_ => [⟨53, vPtr (kInt .i64), t17⟩]) rfl (fun gs_ => l_ld (o_t rfl) ty3 (lt rfl)) (fun gs_ => .d 31 rfl rfl (.nil)) (.s rfl (fun gs_ => .d 27 rfl rfl (.nil)) hb16) (fun _ => rfl) rfl (fun _ _ _ => rfl) (.x (f := fun gs_ => ⟨55, vBool, t19⟩) 1 (fun gs_ => [⟨50, (k_code_look).v, p0⟩, ⟨54, vInt .i64, t17⟩]) rfl (fun gs_ => l_call (ok45 p0 t17 (16 : Int) _ h20) (.cons (o_t rfl) (.cons (o_t rfl) (.cons (o_i) (.nil)))) (lt rfl)) (fun gs_ => .d 28 rfl rfl (.d 32 rfl rfl (.nil))) (.s rfl (fun gs_ => .d 27 rfl rfl (.nil)) hb16) (fun _ => rfl) rfl (fun _ _ _ => rfl) (.x (f := fun gs_ => ⟨56, vBool, !t19⟩) 1 (fun gs_ => [⟨55, vBool, t19⟩]) rfl (fun gs_ => l_not (o_t rfl) (lt rfl)) (fun gs_ => .d 33 rfl rfl (.nil)) (.s rfl (fun gs_ => .d 27 rfl rfl (.nil)) hb16) (fun _ => rfl) rfl (fun _ _ _ => rfl) (.x (f := fun gs_ => ⟨57, vBool, !t19⟩) 1 (fun gs_ => [⟨49, vBool, !t14⟩, ⟨56, vBool, !t19⟩]) rfl (fun gs_ => l_pickf (o_t rfl) hb16 (o_t rfl) (lt rfl)) (fun gs_ => .d 27 rfl rfl (.d 34 rfl rfl (.nil))) .n (fun _ => rfl) rfl (fun _ _ _ => rfl) (.nil))))))))))))))))))))))))))))))))))))) (fun gs_ hgs_ => ?_)
              obtain ⟨gh900_, rfl⟩ := len1 hgs_
              show Kx _ _ [rMap o5 (kInt .i64) (kInt .i64) t9.2] _ _
              refine k_seq ?_
              rcases bt (!t19) with hb21 | hb21
              · rw [if_neg (nt hb21)] at hp_
                refine t_iff (o_t rfl) hb21 ?_
                refine t_skip (k_seq ?_)
                refine t_seq ?_
                refine t_seq ?_
                refine t_reg ?_
                refine st (l_fa (o_t rfl) fl_aCode_1 fa30_1 (lt rfl)) ?_
                refine st (l_ld (o_t rfl) ty23 (lt rfl)) ?_
                refine st (l_lens (o_t rfl) sl23 (lt rfl)) ?_
                refine st (l_move (o_i) (lt rfl)) ?_
                refine r_nil (k_seq ?_)
                obtain ⟨res1_, hl1_0, hx1_⟩ := bs hp_
                clear hp_
                refine t_sub (Γ' := [⟨61, vInt .i64, (0 : Int)⟩, ⟨1, vPtr k_code_look, p0⟩, ⟨3, vPtr k_aCode, p0.c⟩, ⟨4, vPtr kVal, o5⟩, ⟨59, vSlice k_aHead, p0.c.Heads⟩, ⟨60, vInt .i64, (p0.c.Heads.length : Int)⟩]) (Sub.cons rfl (Sub.cons rfl (Sub.cons rfl (Sub.cons rfl (Sub.cons rfl (Sub.cons rfl (Sub.nil _))))))) ?_
                refine t_bloop (β := Nat × Int × (List (Int × Int))) (σ := (List (Int × Int))) (fun x_ => [⟨61, vInt .i64, x_.2.1⟩, ⟨1, vPtr k_code_look, p0⟩, ⟨3, vPtr k_aCode, p0.c⟩, ⟨4, vPtr kVal, o5⟩, ⟨59, vSlice k_aHead, p0.c.Heads⟩, ⟨60, vInt .i64, (p0.c.Heads.length : Int)⟩]) (fun x_ => [rMap o5 (kInt .i64) (kInt .i64) x_.2.2]) (fun x_ => code_look_slotted.l1 x_.1 p0 x_.2.1 x_.2.2 = some res1_) (fun x_ => x_.1) (fun x_ => [⟨1, vPtr k_code_look, p0⟩, ⟨3, vPtr k_aCode, p0.c⟩, ⟨4, vPtr kVal, o5⟩]) (fun x_ => [rMap o5 (kInt .i64) (kInt .i64) x_]) (fun x_ => res1_ = .go x_) ?_ ?_ ((((p0.c.Heads.length : Int) - (0 : Int)).toNat + 1), (0 : Int), t9.2) hl1_0
                · rintro ⟨k1_, v61_1, w6_1⟩ hl1_
                  rcases k1_ with _ | k1_
                  · exact absurd (show none = some res1_ from hl1_) (by simp)
                  replace hl1_ : code_look_slotted.l1 (k1_ + 1) p0 v61_1 w6_1 = some res1_ := hl1_
                  rw [code_look_slotted.l1.eq_2] at hl1_
                  show Tr Tryz.prog _ [⟨61, vInt .i64, v61_1⟩, ⟨1, vPtr k_code_look, p0⟩, ⟨3, vPtr k_aCode, p0.c⟩, ⟨4, vPtr kVal, o5⟩, ⟨59, vSlice k_aHead, p0.c.Heads⟩, ⟨60, vInt .i64, (p0.c.Heads.length : Int)⟩] [rMap o5 (kInt .i64) (kInt .i64) w6_1] _ _
                  refine t_seq ?_
                  refine t_reg ?_
                  refine st (l_cmp (o_t rfl) (o_t rfl) .lss (lt rfl)) ?_
                  refine r_nil (k_seq ?_)
                  refine t_seq ?_
                  rcases bt (decide (v61_1 < (p0.c.Heads.length : Int))) with hb22 | hb22
                  · rw [if_neg (nt hb22)] at hl1_
                    refine t_iff (o_t rfl) hb22 ?_
                    exact t_exit (k_te <| k_te <| k_be <| k_brk w6_1 (Option.some.inj hl1_).symm (Sub.cons rfl (Sub.cons rfl (Sub.cons rfl (Sub.nil _)))) rfl)
                  · rw [if_pos hb22] at hl1_
                    refine t_ift (o_t rfl) hb22 ?_
                    refine t_skip (k_seq ?_)
                    refine t_seq ?_
                    refine t_blk ?_
                    refine t_seq ?_
                    refine t_reg ?_
                    obtain ⟨t23, h24, hl1_⟩ := bs hl1_
                    refine st (l_ia (o_t rfl) (o_t rfl) h24 sl23 sz85 (lt rfl)) ?_
                    refine st (l_ld (o_t rfl) ty85 (lt rfl)) ?_
                    refine r_als zr85 (o_t rfl) rfl sz85 (lt rfl) ?_
                    refine r_nil (k_seq ?_)
                    refine t_seq ?_
                    refine t_reg ?_
                    refine st (l_assign (o_i) (lt rfl)) ?_
                    refine r_nil (k_seq ?_)
                    refine t_seq ?_
                    refine t_seq ?_
                    refine t_reg ?_
                    refine st (l_ld (o_t rfl) ty51 (lt rfl)) ?_
                    refine st (l_ld (o_t rfl) tv92 (lt rfl)) ?_
                    refine st (l_fa (o_t rfl) fl_aHead_0 fa85_0 (lt rfl)) ?_
                    refine st (l_ld (o_t rfl) ty22 (lt rfl)) ?_
                    obtain ⟨t25, h26, hl1_⟩ := bs hl1_
                    refine st (l_callm (Δ2 := [rMap o5 (kInt .i64) (kInt .i64) t25.2]) (ok44_0 p0 w6_1 t23.Slots (1 : Int) (64 : Int) o5 _ h26) (.cons (o_t rfl) (.cons (o_t rfl) (.cons (o_t rfl) (.cons (o_i) (.cons (o_i) (.nil)))))) (pm_take 0 rfl pm_nil) (pr_take 0 rfl pr_nil) (lt rfl)) ?_
                    refine st (l_not (o_t rfl) (lt rfl)) ?_
                    refine r_nil (k_seq ?_)
                    rcases bt (!t25.1) with hb27 | hb27
                    · rw [if_neg (nt hb27)] at hl1_
                      refine t_iff (o_t rfl) hb27 ?_
                      refine t_skip (k_seq ?_)
                      refine t_seq ?_
                      refine t_seq ?_
                      refine t_reg ?_
                      refine st (l_fa (o_t rfl) fl_aHead_0 fa85_0 (lt rfl)) ?_
                      refine st (l_ld (o_t rfl) ty22 (lt rfl)) ?_
                      refine st (l_lens (o_t rfl) sl22 (lt rfl)) ?_
                      refine st (l_move (o_i) (lt rfl)) ?_
                      refine r_nil (k_seq ?_)
                      obtain ⟨res2_, hl2_0, hx2_⟩ := bs hl1_
                      clear hl1_
                      refine t_sub (Γ' := [⟨7, vInt .i64, (0 : Int)⟩, ⟨74, vInt .i64, (0 : Int)⟩, ⟨1, vPtr k_code_look, p0⟩, ⟨3, vPtr k_aCode, p0.c⟩, ⟨4, vPtr kVal, o5⟩, ⟨59, vSlice k_aHead, p0.c.Heads⟩, ⟨60, vInt .i64, (p0.c.Heads.length : Int)⟩, ⟨61, vInt .i64, v61_1⟩, ⟨72, vSlice (kInt .i64), t23.Slots⟩, ⟨73, vInt .i64, (t23.Slots.length : Int)⟩]) (Sub.cons rfl (Sub.cons rfl (Sub.cons rfl (Sub.cons rfl (Sub.cons rfl (Sub.cons rfl (Sub.cons rfl (Sub.cons rfl (Sub.cons rfl (Sub.cons rfl (Sub.nil _))))))))))) ?_
                      refine t_bloop (β := Nat × Int × Int) (σ := Int) (fun x_ => [⟨7, vInt .i64, x_.2.1⟩, ⟨74, vInt .i64, x_.2.2⟩, ⟨1, vPtr k_code_look, p0⟩, ⟨3, vPtr k_aCode, p0.c⟩, ⟨4, vPtr kVal, o5⟩, ⟨59, vSlice k_aHead, p0.c.Heads⟩, ⟨60, vInt .i64, (p0.c.Heads.length : Int)⟩, ⟨61, vInt .i64, v61_1⟩, ⟨72, vSlice (kInt .i64), t23.Slots⟩, ⟨73, vInt .i64, (t23.Slots.length : Int)⟩]) (fun x_ => [rMap o5 (kInt .i64) (kInt .i64) t25.2]) (fun x_ => code_look_slotted.l2 x_.1 p0 t23 x_.2.1 x_.2.2 = some res2_) (fun x_ => x_.1) (fun x_ => [⟨1, vPtr k_code_look, p0⟩, ⟨3, vPtr k_aCode, p0.c⟩, ⟨4, vPtr kVal, o5⟩, ⟨7, vInt .i64, x_⟩, ⟨59, vSlice k_aHead, p0.c.Heads⟩, ⟨60, vInt .i64, (p0.c.Heads.length : Int)⟩, ⟨61, vInt .i64, v61_1⟩]) (fun x_ => [rMap o5 (kInt .i64) (kInt .i64) t25.2]) (fun x_ => res2_ = x_) ?_ ?_ ((((t23.Slots.length : Int) - (0 : Int)).toNat + 1), (0 : Int), (0 : Int)) hl2_0
                      · rintro ⟨k2_, v7_2, v74_2⟩ hl2_
                        rcases k2_ with _ | k2_
                        · exact absurd (show none = some res2_ from hl2_) (by simp)
                        replace hl2_ : code_look_slotted.l2 (k2_ + 1) p0 t23 v7_2 v74_2 = some res2_ := hl2_
                        rw [code_look_slotted.l2.eq_2] at hl2_
                        show Tr Tryz.prog _ [⟨7, vInt .i64, v7_2⟩, ⟨74, vInt .i64, v74_2⟩, ⟨1, vPtr k_code_look, p0⟩, ⟨3, vPtr k_aCode, p0.c⟩, ⟨4, vPtr kVal, o5⟩, ⟨59, vSlice k_aHead, p0.c.Heads⟩, ⟨60, vInt .i64, (p0.c.Heads.length : Int)⟩, ⟨61, vInt .i64, v61_1⟩, ⟨72, vSlice (kInt .i64), t23.Slots⟩, ⟨73, vInt .i64, (t23.Slots.length : Int)⟩] [rMap o5 (kInt .i64) (kInt .i64) t25.2] _ _
                        refine t_seq ?_
                        refine t_reg ?_
                        refine st (l_cmp (o_t rfl) (o_t rfl) .lss (lt rfl)) ?_
                        refine r_nil (k_seq ?_)
                        refine t_seq ?_
                        rcases bt (decide (v74_2 < (t23.Slots.length : Int))) with hb28 | hb28
                        · rw [if_neg (nt hb28)] at hl2_
                          refine t_iff (o_t rfl) hb28 ?_
                          exact t_exit (k_te <| k_te <| k_be <| k_brk v7_2 (Option.some.inj hl2_).symm (Sub.cons rfl (Sub.cons rfl (Sub.cons rfl (Sub.cons rfl (Sub.cons rfl (Sub.cons rfl (Sub.cons rfl (Sub.nil _)))))))) rfl)
                        · rw [if_pos hb28] at hl2_
                          refine t_ift (o_t rfl) hb28 ?_
                          refine t_skip (k_seq ?_)
                          refine t_seq ?_
                          refine t_blk ?_
                          refine t_seq ?_
                          refine t_reg ?_
                          obtain ⟨t29, h30, hl2_⟩ := bs hl2_
                          refine st (l_ia (o_t rfl) (o_t rfl) h30 sl22 sz3 (lt rfl)) ?_
                          refine st (l_ld (o_t rfl) ty3 (lt rfl)) ?_
                          refine st (l_assign (o_t rfl) (lt rfl)) ?_
                          refine r_nil (k_seq ?_)
                          refine t_reg ?_
                          refine st (l_move (o_t rfl) (lt rfl)) ?_
                          refine st (l_fa (o_t rfl) fl_aCode_0 fa30_0 (lt rfl)) ?_
                          refine st (l_ld (o_t rfl) ty22 (lt rfl)) ?_
                          refine st (l_move (o_t rfl) (lt rfl)) ?_
                          obtain ⟨t31, h32, hl2_⟩ := bs hl2_
                          refine st (l_ia (o_t rfl) (o_t rfl) h32 sl22 sz3 (lt rfl)) ?_
                          refine st (l_ld (o_t rfl) ty3 (lt rfl)) ?_
                          refine st (l_bin (o_t rfl) (o_t rfl) .add (lt rfl)) ?_
                          refine st (l_assign (o_t rfl) (lt rfl)) ?_
                          refine r_nil (k_bn <| k_seq ?_)
                          refine t_reg ?_
                          refine st (l_bin (o_t rfl) (o_i) .add (lt rfl)) ?_
                          refine st (l_move (o_t rfl) (lt rfl)) ?_
                          exact r_nil (k_again (k2_, IntKind.wrap .i64 (v7_2 + t31), IntKind.wrap .i64 (v74_2 + (1 : Int))) hl2_ (Nat.lt_succ_self _) (Sub.cons rfl (Sub.cons rfl (Sub.cons rfl (Sub.cons rfl (Sub.cons rfl (Sub.cons rfl (Sub.cons rfl (Sub.cons rfl (Sub.cons rfl (Sub.cons rfl (Sub.nil _))))))))))) rfl)
                      · intro s2_ hs2_
                        replace hs2_ : s2_ = res2_ := Eq.symm hs2_
                        subst hs2_
                        have hl1_ := hx2_
                        clear hx2_
                        show Kx _ [⟨1, vPtr k_code_look, p0⟩, ⟨3, vPtr k_aCode, p0.c⟩, ⟨4, vPtr kVal, o5⟩, ⟨7, vInt .i64, s2_⟩, ⟨59, vSlice k_aHead, p0.c.Heads⟩, ⟨60, vInt .i64, (p0.c.Heads.length : Int)⟩, ⟨61, vInt .i64, v61_1⟩] [rMap o5 (kInt .i64) (kInt .i64) t25.2] _ _
                        refine k_seq ?_
                        refine t_seq ?_
                        refine t_reg ?_
                        refine st (l_move (o_t rfl) (lt rfl)) ?_
                        refine st (l_bin (o_t rfl) (o_i) (.rem (by decide)) (lt rfl)) ?_
                        refine st (l_cmp (o_t rfl) (o_i) .neq (lt rfl)) ?_
                        refine r_nil (k_seq ?_)
                        rcases bt ((Int.tmod s2_ (8 : Int)) != (0 : Int)) with hb33 | hb33
                        · rw [if_neg (nt hb33)] at hl1_
                          refine t_iff (o_t rfl) hb33 ?_
                          refine t_skip (k_bn <| k_seq ?_)
                          refine t_reg ?_
                          refine st (l_bin (o_t rfl) (o_i) .add (lt rfl)) ?_
                          refine st (l_move (o_t rfl) (lt rfl)) ?_
                          exact r_nil (k_again (k1_, IntKind.wrap .i64 (v61_1 + (1 : Int)), t25.2) hl1_ (Nat.lt_succ_self _) (Sub.cons rfl (Sub.cons rfl (Sub.cons rfl (Sub.cons rfl (Sub.cons rfl (Sub.cons rfl (Sub.nil _))))))) rfl)
                        · rw [if_pos hb33] at hl1_
                          refine t_ift (o_t rfl) hb33 ?_
                          refine t_seq ?_
                          refine t_reg ?_
                          refine st (l_assign (o_b) (lt rfl)) ?_
                          refine r_nil (k_seq ?_)
                          cases hl1_
                          dsimp only [Ex.elim] at hx1_
                          cases hx1_
                          exact t_ret (k_br <| k_tr <| k_tr <| k_br <| k_brk_r <| k_tr <| k_drop <| k_ret () rfl rfl rfl rfl rfl)
                    · rw [if_pos hb27] at hl1_
                      refine t_ift (o_t rfl) hb27 ?_
                      refine t_seq ?_
                      refine t_reg ?_
                      refine st (l_assign (o_b) (lt rfl)) ?_
                      refine r_nil (k_seq ?_)
                      cases hl1_
                      dsimp only [Ex.elim] at hx1_
                      cases hx1_
                      exact t_ret (k_tr <| k_br <| k_tr <| k_tr <| k_br <| k_brk_r <| k_tr <| k_drop <| k_ret () rfl rfl rfl rfl rfl)
                · intro s1_ hs1_
                  replace hs1_ : res1_ = .go s1_ := hs1_
                  subst hs1_
                  dsimp only [Ex.elim] at hx1_
                  have hp_ := hx1_
                  clear hx1_
                  show Kx _ [⟨1, vPtr k_code_look, p0⟩, ⟨3, vPtr k_aCode, p0.c⟩, ⟨4, vPtr kVal, o5⟩] [rMap o5 (kInt .i64) (kInt .i64) s1_] _ _
                  refine k_seq ?_
                  refine t_seq ?_
                  refine t_reg ?_
                  refine st (l_fa (o_t rfl) fl_aCode_5 fa30_5 (lt rfl)) ?_
                  refine st (l_ld (o_t rfl) ty26 (lt rfl)) ?_
                  refine st (l_mkf (.nil) (.cons (o_t rfl) (.cons (o_t rfl) (.nil))) (lt rfl)) ?_
                  obtain ⟨t34, h35, hp_⟩ := bs hp_
                  refine st (l_callm (Δ2 := [rMap o5 (kInt .i64) (kInt .i64) t34.2]) (ok26_0 p0.c.Acts p0 s1_ o5 _ h35) (.cons (o_t rfl) (.cons (o_t rfl) (.nil))) (pm_take 0 rfl pm_nil) (pr_take 0 rfl pr_nil) (lt rfl)) ?_
                  refine st (l_not (o_t rfl) (lt rfl)) ?_
                  refine st (l_assign (o_t rfl) (lt rfl)) ?_
                  refine r_nil (k_seq ?_)
                  cases hp_
                  exact t_ret (k_drop <| k_ret () rfl rfl rfl rfl rfl)
              · rw [if_pos hb21] at hp_
                refine t_ift (o_t rfl) hb21 ?_
                refine t_seq ?_
                refine t_reg ?_
                refine st (l_assign (o_b) (lt rfl)) ?_
                refine r_nil (k_seq ?_)
                cases hp_
                exact t_ret (k_tr <| k_drop <| k_ret () rfl rfl rfl rfl rfl)
            · rw [if_pos hb16] at hp_
              refine t_draw [(0, fun gs_ => some ⟨22, vPtr (kSlice k_aHead), p0.c.Heads⟩), (0, fun gs_ => some ⟨23, vSlice k_aHead, p0.c.Heads⟩), (0, fun gs_ => some ⟨24, vInt .i64, (p0.c.Heads.length : Int)⟩), (0, fun gs_ => some ⟨25, vBool, decide ((p0.c.Heads.length : Int) > (256 : Int))⟩), (0, fun gs_ => some ⟨26, vBool, decide ((p0.c.Heads.length : Int) > (256 : Int))⟩), (0, fun gs_ => some ⟨27, vPtr (kSlice k_aAct), p0.c.Acts⟩), (0, fun gs_ => some ⟨28, vSlice k_aAct, p0.c.Acts⟩), (0, fun gs_ => some ⟨29, vInt .i64, (p0.c.Acts.length : Int)⟩), (0, fun gs_ => some ⟨30, vBool, decide ((p0.c.Acts.length : Int) > (256 : Int))⟩), (0, fun gs_ => some ⟨31, vBool, decide ((p0.c.Acts.length : Int) > (256 : Int))⟩), (0, fun gs_ => some ⟨32, vBool, decide ((p0.c.Acts.length : Int) > (256 : Int))⟩), (0, fun gs_ => some ⟨33, (k_code_look).v, p0⟩), (0, fun gs_ => some ⟨34, kVal.v, o5⟩), (0, fun gs_ => some ⟨35, vPtr (kSlice (kInt .i64)), p0.c.Meta⟩), (0, fun gs_ => some ⟨36, vSlice (kInt .i64), p0.c.Meta⟩), (1, fun gs_ => some ⟨37, vBool, t9.1⟩), (1, fun gs_ => some ⟨38, vBool, !t9.1⟩), (1, fun gs_ => some ⟨39, vBool, !t9.1⟩), (1, fun gs_ => some ⟨40, vBool, !t9.1⟩), (1, fun gs_ => some ⟨41, (k_code_look).v, p0⟩), (1, fun gs_ => some ⟨42, vPtr (kSlice (kInt .i64)), p0.c.Meta⟩), (1, fun gs_ => some ⟨43, vSlice (kInt .i64), p0.c.Meta⟩), (1, fun gs_ => some ⟨44, vPtr (kInt .i64), t12⟩), (1, fun gs_ => some ⟨45, vInt .i64, t12⟩), (1, fun gs_ => some ⟨46, vBool, t14⟩), (1, fun gs_ => some ⟨47, vBool, !t14⟩), (1, fun gs_ => some ⟨48, vBool, !t14⟩), (1, fun gs_ => some ⟨49, vBool, !t14⟩), (0, fun _ => some ⟨50, vUnd, ()⟩), (0, fun _ => some ⟨51, vUnd, ()⟩), (0, fun _ => some ⟨52, vUnd, ()⟩), (0, fun _ => some ⟨53, vUnd, ()⟩), (0, fun _ => some ⟨54, vUnd, ()⟩), (0, fun _ => some ⟨55, vUnd, ()⟩), (0, fun _ => some ⟨56, vUnd, ()⟩), (1, fun gs_ => some ⟨57, vBool, true⟩)] mixed rfl rfl (fun gs_ => [] ++ ph gs_ [fun gs_ => [rMap o5 (kInt .i64) (kInt .i64) []], fun gs_ => [rMap o5 (kInt .i64) (kInt .i64) t9.2]]) [15] rfl (.x (f := fun gs_ => ⟨22, vPtr (kSlice k_aHead), p0.c.Heads⟩) 0 (fun gs_ => [⟨3, vPtr k_aCode, p0.c⟩]) rfl (fun gs_ => l_fa (o_t rfl) fl_aCode_1 fa30_1 (lt rfl)) (fun gs_ => .b rfl rfl (.nil)) .n (fun _ => rfl) rfl (fun _ _ _ => rfl) (.x (f := fun gs_ => ⟨23, vSlice k_aHead, p0.c.Heads⟩) 0 (fun gs_ => [⟨22, vPtr (kSlice k_aHead), p0.c.Heads⟩]) rfl (fun gs_ => l_ld (o_t rfl) ty23 (lt rfl)) (fun gs_ => .d 0 rfl rfl (.nil)) .n (fun _ => rfl) rfl (fun _ _ _ => rfl) (.x (f := fun gs_ => ⟨24, vInt .i64, (p0.c.Heads.length : Int)⟩) 0 (fun gs_ => [⟨23, vSlice k_aHead, p0.c.Heads⟩]) rfl (fun gs_ => l_lens (o_t rfl) sl23 (lt rfl)) (fun gs_ => .d 1 rfl rfl (.nil)) .n (fun _ => rfl) rfl (fun _ _ _ => rfl) (.x (f := fun gs_ => ⟨25, vBool, decide ((p0.c.Heads.length : Int) > (256 : Int))⟩) 0 (fun gs_ => [⟨24, vInt .i64, (p0.c.Heads.length : Int)⟩]) rfl (fun gs_ => l_cmp (o_t rfl) (o_i) .gtr (lt rfl)) (fun gs_ => .d 2 rfl rfl (.nil)) .n (fun _ => rfl) rfl (fun _ _ _ => rfl) (.x (f := fun gs_ => ⟨26, vBool, decide ((p0.c.Heads.length : Int) > (256 : Int))⟩) 0 (fun gs_ => [⟨25, vBool, decide ((p0.c.Heads.length : Int) > (256 : Int))⟩]) rfl (fun gs_ => l_move (o_t rfl) (lt rfl)) (fun gs_ => .d 3 rfl rfl (.nil)) .n (fun _ => rfl) rfl (fun _ _ _ => rfl) (.x (f := fun gs_ => ⟨27, vPtr (kSlice k_aAct), p0.c.Acts⟩) 0 (fun gs_ => [⟨3, vPtr k_aCode, p0.c⟩]) rfl (fun gs_ => l_fa (o_t rfl) fl_aCode_5 fa30_5 (lt rfl)) (fun gs_ => .b rfl rfl (.nil)) (.s rfl (fun gs_ => .d 4 rfl rfl (.nil)) hb7) (fun _ => rfl) rfl (fun _ _ _ => rfl) (.x (f := fun gs_ => ⟨28, vSlice k_aAct, p0.c.Acts⟩) 0 (fun gs_ => [⟨27, vPtr (kSlice k_aAct), p0.c.Acts⟩]) rfl (fun gs_ => l_ld (o_t rfl) ty26 (lt rfl)) (fun gs_ => .d 5 rfl rfl (.nil)) (.s rfl (fun gs_ => .d 4 rfl rfl (.nil)) hb7) (fun _ => rfl) rfl (fun _ _ _ => rfl) (.x (f := fun gs_ => ⟨29, vInt .i64, (p0.c.Acts.length : Int)⟩) 0 (fun gs_ => [⟨28, vSlice k_aAct, p0.c.Acts⟩]) rfl (fun gs_ => l_lens (o_t rfl) sl26 (lt rfl)) (fun gs_ => .d 6 rfl rfl (.nil)) (.s rfl (fun gs_ => .d 4 rfl rfl (.nil)) hb7) (fun _ => rfl) rfl (fun _ _ _ => rfl) (.x (f := fun gs_ => ⟨30, vBool, decide ((p0.c.Acts.length : Int) > (256 : Int))⟩) 0 (fun gs_ => [⟨29, vInt .i64, (p0.c.Acts.length : Int)⟩]) rfl (fun gs_ => l_cmp (o_t rfl) (o_i) .gtr (lt rfl)) (fun gs_ => .d 7 rfl rfl (.nil)) (.s rfl (fun gs_ => .d 4 rfl rfl (.nil)) hb7) (fun _ => rfl) rfl (fun _ _ _ => rfl) (.x (f := fun gs_ => ⟨31, vBool, decide ((p0.c.Acts.length : Int) > (256 : Int))⟩) 0 (fun gs_ => [⟨26, vBool, decide ((p0.c.Heads.length : Int) > (256 : Int))⟩, ⟨30, vBool, decide ((p0.c.Acts.length : Int) > (256 : Int))⟩]) rfl (fun gs_ => l_pickf (o_t rfl) hb7 (o_t rfl) (lt rfl)) (fun gs_ => .d 4 rfl rfl (.d 8 rfl rfl (.nil))) .n (fun _ => rfl) rfl (fun _ _ _ => rfl) (.x (f := fun gs_ => ⟨32, vBool, decide ((p0.c.Acts.length : Int) > (256 : Int))⟩) 0 (fun gs_ => [⟨31, vBool, decide ((p0.c.Acts.length : Int) > (256 : Int))⟩]) rfl (fun gs_ => l_move (o_t rfl) (lt rfl)) (fun gs_ => .d 9 rfl rfl (.nil)) .n (fun _ => rfl) rfl (fun _ _ _ => rfl) (.x (f := fun gs_ => ⟨33, (k_code_look).v, p0⟩) 0 (fun gs_ => [⟨1, vPtr k_code_look, p0⟩]) rfl (fun gs_ => l_ld (o_t rfl) ty51 (lt rfl)) (fun gs_ => .b rfl rfl (.nil)) (.s rfl (fun gs_ => .d 10 rfl rfl (.nil)) hb8) (fun _ => rfl) rfl (fun _ _ _ => rfl) (.x (f := fun gs_ => ⟨34, kVal.v, o5⟩) 0 (fun gs_ => [⟨4, vPtr kVal, o5⟩]) rfl (fun gs_ => l_ld (o_t rfl) tv92 (lt rfl)) (fun gs_ => .b rfl rfl (.nil)) (.s rfl (fun gs_ => .d 10 rfl rfl (.nil)) hb8) (fun _ => rfl) rfl (fun _ _ _ => rfl) (.x (f := fun gs_ => ⟨35, vPtr (kSlice (kInt .i64)), p0.c.Meta⟩) 0 (fun gs_ => [⟨3, vPtr k_aCode, p0.c⟩]) rfl (fun gs_ => l_fa (o_t rfl) fl_aCode_2 fa30_2 (lt rfl)) (fun gs_ => .b rfl rfl (.nil)) (.s rfl (fun gs_ => .d 10 rfl rfl (.nil)) hb8) (fun _ => rfl) rfl (fun _ _ _ => rfl) (.x (f := fun gs_ => ⟨36, vSlice (kInt .i64), p0.c.Meta⟩) 0 (fun gs_ => [⟨35, vPtr (kSlice (kInt .i64)), p0.c.Meta⟩]) rfl (fun gs_ => l_ld (o_t rfl) ty22 (lt rfl)) (fun gs_ => .d 13 rfl rfl (.nil)) (.s rfl (fun gs_ => .d 10 rfl rfl (.nil)) hb8) (fun _ => rfl) rfl (fun _ _ _ => rfl) (.e (f := fun gs_ => some ⟨37, vBool, t9.1⟩) 0 (fun gs_ => [⟨33, (k_code_look).v, p0⟩, ⟨34, kVal.v, o5⟩, ⟨36, vSlice (kInt .i64), p0.c.Meta⟩]) rfl (fun gs_ hg_ => by obtain rfl := len0 hg_; show LocX _ _ _ [rMap o5 (kInt .i64) (kInt .i64) []] _ (fun gh900_ => some ⟨37, vBool, t9.1⟩) (fun gh900_ => [rMap o5 (kInt .i64) (kInt .i64) t9.2]); exact lx (lf (l_callm (Δ2 := [rMap o5 (kInt .i64) (kInt .i64) t9.2]) (ok44_0 p0 [] p0.c.Meta (2 : Int) (66 : Int) o5 _ h10) (.cons (o_t rfl) (.cons (o_t rfl) (.cons (o_t rfl) (.cons (o_i) (.cons (o_i) (.nil)))))) (pm_take 0 rfl pm_nil) (pr_take 0 rfl pr_nil) (lt rfl)))) (fun gs_ => .d 11 rfl rfl (.d 12 rfl rfl (.d 14 rfl rfl (.nil)))) (.s rfl (fun gs_ => .d 10 rfl rfl (.nil)) hb8) (fun _ => rfl) rfl (fun _ _ _ => rfl) (.x (f := fun gs_ => ⟨38, vBool, !t9.1⟩) 1 (fun gs_ => [⟨37, vBool, t9.1⟩]) rfl (fun gs_ => l_not (o_t rfl) (lt rfl)) (fun gs_ => .d 15 rfl rfl (.nil)) (.s rfl (fun gs_ => .d 10 rfl rfl (.nil)) hb8) (fun _ => rfl) rfl (fun _ _ _ => rfl) (.x (f := fun gs_ => ⟨39, vBool, !t9.1⟩) 1 (fun gs_ => [⟨32, vBool, decide ((p0.c.Acts.length : Int) > (256 : Int))⟩, ⟨38, vBool, !t9.1⟩]) rfl (fun gs_ => l_pickf (o_t rfl) hb8 (o_t rfl) (lt rfl)) (fun gs_ => .d 10 rfl rfl (.d 16 rfl rfl (.nil))) .n (fun _ => rfl) rfl (fun _ _ _ => rfl) (.x (f := fun gs_ => ⟨40, vBool, !t9.1⟩) 1 (fun gs_ => [⟨39, vBool, !t9.1⟩]) rfl (fun gs_ => l_move (o_t rfl) (lt rfl)) (fun gs_ => .d 17 rfl rfl (.nil)) .n (fun _ => rfl) rfl (fun _ _ _ => rfl) (.x (f := fun gs_ => ⟨41, (k_code_look).v, p0⟩) 1 (fun gs_ => [⟨1, vPtr k_code_look, p0⟩]) rfl (fun gs_ => l_ld (o_t rfl) ty51 (lt rfl)) (fun gs_ => .b rfl rfl (.nil)) (.s rfl (fun gs_ => .d 18 rfl rfl (.nil)) hb11) (fun _ => rfl) rfl (fun _ _ _ => rfl) (.x (f := fun gs_ => ⟨42, vPtr (kSlice (kInt .i64)), p0.c.Meta⟩) 1 (fun gs_ => [⟨3, vPtr k_aCode, p0.c⟩]) rfl (fun gs_ => l_fa (o_t rfl) fl_aCode_2 fa30_2 (lt rfl)) (fun gs_ => .b rfl rfl (.nil)) (.s rfl (fun gs_ => .d 18 rfl rfl (.nil)) hb11) (fun _ => rfl) rfl (fun _ _ _ => rfl) (.x (f := fun gs_ => ⟨43, vSlice (kInt .i64), p0.c.Meta⟩) 1 (fun gs_ => [⟨42, vPtr (kSlice (kInt .i64)), p0.c.Meta⟩]) rfl (fun gs_ => l_ld (o_t rfl) ty22 (lt rfl)) (fun gs_ => .d 20 rfl rfl (.nil)) (.s rfl (fun gs_ => .d 18 rfl rfl (.nil)) hb11) (fun _ => rfl) rfl (fun _ _ _ => rfl) (.x (f := fun gs_ => ⟨44, vPtr (kInt .i64), t12⟩) 1 (fun gs_ => [⟨43, vSlice (kInt .i64), p0.c.Meta⟩]) rfl (fun gs_ => l_ia (o_t rfl) (o_i) h13 sl22 sz3 (lt rfl)) (fun gs_ => .d 21 rfl rfl (.nil)) (.s rfl (fun gs_ => .d 18 rfl rfl (.nil)) hb11) (fun _ => rfl) rfl (fun _ _ _ => rfl) (.x (f := fun gs_ => ⟨45, vInt .i64, t12⟩) 1 (fun gs_ => [⟨44, vPtr (kInt .i64), t12⟩]) rfl (fun gs_ => l_ld (o_t rfl) ty3 (lt rfl)) (fun gs_ => .d 22 rfl rfl (.nil)) (.s rfl (fun gs_ => .d 18 rfl rfl (.nil)) hb11) (fun _ => rfl) rfl (fun _ _ _ => rfl) (.x (f := fun gs_ => ⟨46, vBool, t14⟩) 1 (fun gs_ => [⟨41, (k_code_look).v, p0⟩, ⟨45, vInt .i64, t12⟩]) rfl (fun gs_ => l_call (ok45 p0 t12 (16 : Int) _ h15) (.cons (o_t rfl) (.cons (o_t rfl) (.cons (o_i) (.nil)))) (lt rfl)) (fun gs_ => .d 19 rfl rfl (.d 23 rfl rfl (.nil))) (.s rfl (fun gs_ => .d 18 rfl rfl (.nil)) hb11) (fun _ => rfl) rfl (fun _ _ _ => rfl) (.x (f := fun gs_ => ⟨47, vBool, !t14⟩) 1 (fun gs_ => [⟨46, vBool, t14⟩]) rfl (fun gs_ => l_not (o_t rfl) (lt rfl)) (fun gs_ => .d 24 rfl rfl (.nil)) (.s rfl (fun gs_ => .d 18 rfl rfl (.nil)) hb11) (fun _ => rfl) rfl (fun _ _ _ => rfl) (.x (f := fun gs_ => ⟨48, vBool, !t14⟩) 1 (fun gs_ => [⟨40, vBool, !t9.1⟩, ⟨47, vBool, !t14⟩]) rfl (fun gs_ => l_pickf (o_t rfl) hb11 (o_t rfl) (lt rfl)) (fun gs_ => .d 18 rfl rfl (.d 25 rfl rfl (.nil))) .n (fun _ => rfl) rfl (fun _ _ _ => rfl) (.x (f := fun gs_ => ⟨49, vBool, !t14⟩) 1 (fun gs_ => [⟨48, vBool, !t14⟩]) rfl (fun gs_ => l_move (o_t rfl) (lt rfl)) (fun gs_ => .d 26 rfl rfl (.nil)) .n (fun _ => rfl) rfl (fun _ _ _ => rfl) (.n (fun gs_ => ⟨49, vBool, !t14⟩) rfl (fun _ => rfl) (fun gs_ => .d 27 rfl rfl (.nil)) (fun _ => noy_b (b := false) hb16) (lt rfl) (.n (fun gs_ => ⟨49, vBool, !t14⟩) rfl (fun _ => rfl) (fun gs_ => .d 27 rfl rfl (.nil)) (fun _ => noy_b (b := false) hb16) (lt rfl) (.n (fun gs_ => ⟨49, vBool, !t14⟩) rfl (fun _ => rfl) (fun gs_ => .d 27 rfl rfl (.nil)) (fun _ => noy_b (b := false) hb16) (lt rfl) (.n (fun gs_ => ⟨49, vBool, !t14⟩) rfl (fun _ => rfl) (fun gs_ => .d 27 rfl rfl (.nil)) (fun _ => noy_b (b := false) hb16) (lt rfl) (.n (fun gs_ => ⟨49, vBool, !t14⟩) rfl (fun _ => rfl) (fun gs_ => .d 27 rfl rfl (.nil)) (fun _ => noy_b (b := false) hb16) (lt rfl) (.n (fun gs_ => ⟨49, vBool, !t14⟩) rfl (fun _ => rfl) (fun gs_ => .d 27 rfl rfl (.nil)) (fun _ => noy_b (b := false) hb16) (lt rfl) (.n (fun gs_ => ⟨49, vBool, !t14⟩) rfl (fun _ => rfl) (fun gs_ => .d 27 rfl rfl (.nil)) (fun _ => noy_b (b := false) hb16) (lt rfl) (.x (f := fun gs_ => ⟨57, vBool, true⟩) 1 (fun gs_ => [⟨49, vBool, !t14⟩]) rfl (fun gs_ => l_pickt (o_t rfl) hb16 (o_b) (lt rfl)) (fun gs_ => .d 27 rfl rfl (.nil)) .n (fun _ => rfl) rfl (fun _ _ _ => rfl) (.nil))))))))))))))))))))))))))))))))))))) (fun gs_ hgs_ => ?_)
              obtain ⟨gh900_, rfl⟩ := len1 hgs_
              show Kx _ _ [rMap o5 (kInt .i64) (kInt .i64) t9.2] _ _
              refine k_seq ?_
              refine t_ift (o_t rfl) rfl ?_
              refine t_seq ?_
              refine t_reg ?_
              refine st (l_assign (o_b) (lt rfl)) ?_
              refine r_nil (k_seq ?_)
              cases hp_
              exact t_ret (k_tr <| k_drop <| k_ret () rfl rfl rfl rfl rfl)
          · rw [if_pos hb11] at hp_
            refine t_draw [(0, fun gs_ => some ⟨22, vPtr (kSlice k_aHead), p0.c.Heads⟩), (0, fun gs_ => some ⟨23, vSlice k_aHead, p0.c.Heads⟩), (0, fun gs_ => some ⟨24, vInt .i64, (p0.c.Heads.length : Int)⟩), (0, fun gs_ => some ⟨25, vBool, decide ((p0.c.Heads.length : Int) > (256 : Int))⟩), (0, fun gs_ => some ⟨26, vBool, decide ((p0.c.Heads.length : Int) > (256 : Int))⟩), (0, fun gs_ => some ⟨27, vPtr (kSlice k_aAct), p0.c.Acts⟩), (0, fun gs_ => some ⟨28, vSlice k_aAct, p0.c.Acts⟩), (0, fun gs_ => some ⟨29, vInt .i64, (p0.c.Acts.length : Int)⟩), (0, fun gs_ => some ⟨30, vBool, decide ((p0.c.Acts.length : Int) > (256 : Int))⟩), (0, fun gs_ => some ⟨31, vBool, decide ((p0.c.Acts.length : Int) > (256 : Int))⟩), (0, fun gs_ => some ⟨32, vBool, decide ((p0.c.Acts.length : Int) > (256 : Int))⟩), (0, fun gs_ => some ⟨33, (k_code_look).v, p0⟩), (0, fun gs_ => some ⟨34, kVal.v, o5⟩), (0, fun gs_ => some ⟨35, vPtr (kSlice (kInt .i64)), p0.c.Meta⟩), (0, fun gs_ => some ⟨36, vSlice (kInt .i64), p0.c.Meta⟩), (1, fun gs_ => some ⟨37, vBool, t9.1⟩), (1, fun gs_ => some ⟨38, vBool, !t9.1⟩), (1, fun gs_ => some ⟨39, vBool, !t9.1⟩), (1, fun gs_ => some ⟨40, vBool, !t9.1⟩), (0, fun _ => some ⟨41, vUnd, ()⟩), (0, fun _ => some ⟨42, vUnd, ()⟩), (0, fun _ => some ⟨43, vUnd, ()⟩), (0, fun _ => some ⟨44, vUnd, ()⟩), (0, fun _ => some ⟨45, vUnd, ()⟩), (0, fun _ => some ⟨46, vUnd, ()⟩), (0, fun _ => some ⟨47, vUnd, ()⟩), (1, fun gs_ => some ⟨48, vBool, true⟩), (1, fun gs_ => some ⟨49, vBool, true⟩), (0, fun _ => some ⟨50, vUnd, ()⟩), (0, fun _ => some ⟨51, vUnd, ()⟩), (0, fun _ => some ⟨52, vUnd, ()⟩), (0, fun _ => some ⟨53, vUnd, ()⟩), (0, fun _ => some ⟨54, vUnd, ()⟩), (0, fun _ => some ⟨55, vUnd, ()⟩), (0, fun _ => some ⟨56, vUnd, ()⟩), (1, fun gs_ => some ⟨57, vBool, true⟩)] mixed rfl rfl (fun gs_ => [] ++ ph gs_ [fun gs_ => [rMap o5 (kInt .i64) (kInt .i64) []], fun gs_ => [rMap o5 (kInt .i64) (kInt .i64) t9.2]]) [15] rfl (.x (f := fun gs_ => ⟨22, vPtr (kSlice k_aHead), p0.c.Heads⟩) 0 (fun gs_ => [⟨3, vPtr k_aCode, p0.c⟩]) rfl (fun gs_ => l_fa (o_t rfl) fl_aCode_1 fa30_1 (lt rfl)) (fun gs_ => .b rfl rfl (.nil)) .n (fun _ => rfl) rfl (fun _ _ _ => rfl) (.x (f := fun gs_ => ⟨23, vSlice k_aHead, p0.c.Heads⟩) 0 (fun gs_ => [⟨22, vPtr (kSlice k_aHead), p0.c.Heads⟩]) rfl (fun gs_ => l_ld (o_t rfl) ty23 (lt rfl)) (fun gs_ => .d 0 rfl rfl (.nil)) .n (fun _ => rfl) rfl (fun _ _ _ => rfl) (.x (f := fun gs_ => ⟨24, vInt .i64, (p0.c.Heads.length : Int)⟩) 0 (fun gs_ => [⟨23, vSlice k_aHead, p0.c.Heads⟩]) rfl (fun gs_ => l_lens (o_t rfl) sl23 (lt rfl)) (fun gs_ => .d 1 rfl rfl (.nil)) .n (fun _ => rfl) rfl (fun _ _ _ => rfl) (.x (f := fun gs_ => ⟨25, vBool, decide ((p0.c.Heads.length : Int) > (256 : Int))⟩) 0 (fun gs_ => [⟨24, vInt .i64, (p0.c.Heads.length : Int)⟩]) rfl (fun gs_ => l_cmp (o_t rfl) (o_i) .gtr (lt rfl)) (fun gs_ => .d 2 rfl rfl (.nil)) .n (fun _ => rfl) rfl (fun _ _ _ => rfl) (.x (f := fun gs_ => ⟨26, vBool, decide ((p0.c.Heads.length : Int) > (256 : Int))⟩) 0 (fun gs_ => [⟨25, vBool, decide ((p0.c.Heads.length : Int) > (256 : Int))⟩]) rfl (fun gs_ => l_move (o_t rfl) (lt rfl)) (fun gs_ => .d 3 rfl rfl (.nil)) .n (fun _ => rfl) rfl (fun _ _ _ => rfl) (.x (f := fun gs_ => ⟨27, vPtr (kSlice k_aAct), p0.c.Acts⟩) 0 (fun gs_ => [⟨3, vPtr k_aCode, p0.c⟩]) rfl (fun gs_ => l_fa (o_t rfl) fl_aCode_5 fa30_5 (lt rfl)) (fun gs_ => .b rfl rfl (.nil)) (.s rfl (fun gs_ => .d 4 rfl rfl (.nil)) hb7) (fun _ => rfl) rfl (fun _ _ _ => rfl) (.x (f := fun gs_ => ⟨28, vSlice k_aAct, p0.c.Acts⟩) 0 (fun gs_ => [⟨27, vPtr (kSlice k_aAct), p0.c.Acts⟩]) rfl (fun gs_ => l_ld (o_t rfl) ty26 (lt rfl)) (fun gs_ => .d 5 rfl rfl (.nil)) (.s rfl (fun gs_ => .d 4 rfl rfl (.nil)) hb7) (fun _ => rfl) rfl (fun _ _ _ => rfl) (.x (f := fun gs_ => ⟨29, vInt .i64, (p0.c.Acts.length : Int)⟩) 0 (fun gs_ => [⟨28, vSlice k_aAct, p0.c.Acts⟩]) rfl (fun gs_ => l_lens (o_t rfl) sl26 (lt rfl)) (fun gs_ => .d 6 rfl rfl (.nil)) (.s rfl (fun gs_ => .d 4 rfl rfl (.nil)) hb7) (fun _ => rfl) rfl (fun _ _ _ => rfl) (.x (f := fun gs_ => ⟨30, vBool, decide ((p0.c.Acts.length : Int) > (256 : Int))⟩) 0 (fun gs_ => [⟨29, vInt .i64, (p0.c.Acts.length : Int)⟩]) rfl (fun gs_ => l_cmp (o_t rfl) (o_i) .gtr (lt rfl)) (fun gs_ => .d 7 rfl rfl (.nil)) (.s rfl (fun gs_ => .d 4 rfl rfl (.nil)) hb7) (fun _ => rfl) rfl (fun _ _ _ => rfl) (.x (f := fun gs_ => ⟨31, vBool, decide ((p0.c.Acts.length : Int) > (256 : Int))⟩) 0 (fun gs_ => [⟨26, vBool, decide ((p0.c.Heads.length : Int) > (256 : Int))⟩, ⟨30, vBool, decide ((p0.c.Acts.length : Int) > (256 : Int))⟩]) rfl (fun gs_ => l_pickf (o_t rfl) hb7 (o_t rfl) (lt rfl)) (fun gs_ => .d 4 rfl rfl (.d 8 rfl rfl (.nil))) .n (fun _ => rfl) rfl (fun _ _ _ => rfl) (.x (f := fun gs_ => ⟨32, vBool, decide ((p0.c.Acts.length : Int) > (256 : Int))⟩) 0 (fun gs_ => [⟨31, vBool, decide ((p0.c.Acts.length : Int) > (256 : Int))⟩]) rfl (fun gs_ => l_move (o_t rfl) (lt rfl)) (fun gs_ => .d 9 rfl rfl (.nil)) .n (fun _ => rfl) rfl (fun _ _ _ => rfl) (.x (f := fun gs_ => ⟨33, (k_code_look).v, p0⟩) 0 (fun gs_ => [⟨1, vPtr k_code_look, p0⟩]) rfl (fun gs_ => l_ld (o_t rfl) ty51 (lt rfl)) (fun gs_ => .b rfl rfl (.nil)) (.s rfl (fun gs_ => .d 10 rfl rfl (.nil)) hb8) (fun _ => rfl) rfl (fun _ _ _ => rfl) (.x (f := fun gs_ => ⟨34, kVal.v, o5⟩) 0 (fun gs_ => [⟨4, vPtr kVal, o5⟩]) rfl (fun gs_ => l_ld (o_t rfl) tv92 (lt rfl)) (fun gs_ => .b rfl rfl (.nil)) (.s rfl (fun gs_ => .d 10 rfl rfl (.nil)) hb8) (fun _ => rfl) rfl (fun _ _ _ => rfl) (.x (f := fun gs_ => ⟨35, vPtr (kSlice (kInt .i64)), p0.c.Meta⟩) 0 (fun gs_ => [⟨3, vPtr k_aCode, p0.c⟩]) rfl (fun gs_ => l_fa (o_t rfl) fl_aCode_2 fa30_2 (lt rfl)) (fun gs_ => .b rfl rfl (.nil)) (.s rfl (fun gs_ => .d 10 rfl rfl (.nil)) hb8) (fun _ => rfl) rfl (fun _ _ _ => rfl) (.x (f := fun gs_ => ⟨36, vSlice (kInt .i64), p0.c.Meta⟩) 0 (fun gs_ => [⟨35, vPtr (kSlice (kInt .i64)), p0.c.Meta⟩]) rfl (fun gs_ => l_ld (o_t rfl) ty22 (lt rfl)) (fun gs_ => .d 13 rfl rfl (.nil)) (.s rfl (fun gs_ => .d 10 rfl rfl (.nil)) hb8) (fun _ => rfl) rfl (fun _ _ _ => rfl) (.e (f := fun gs_ => some ⟨37, vBool, t9.1⟩) 0 (fun gs_ => [⟨33, (k_code_look).v, p0⟩, ⟨34, kVal.v, o5⟩, ⟨36, vSlice (kInt .i64), p0.c.Meta⟩]) rfl (fun gs_ hg_ => by obtain rfl := len0 hg_; show LocX _ _ _ [rMap o5 (kInt .i64) (kInt .i64) []] _ (fun gh900_ => some ⟨37, vBool, t9.1⟩) (fun gh900_ => [rMap o5 (kInt .i64) (kInt .i64) t9.2]); exact lx (lf (l_callm (Δ2 := [rMap o5 (kInt .i64) (kInt .i64) t9.2]) (ok44_0 p0 [] p0.c.Meta (2 : Int) (66 : Int) o5 _ h10) (.cons (o_t rfl) (.cons (o_t rfl) (.cons (o_t rfl) (.cons (o_i) (.cons (o_i) (.nil)))))) (pm_take 0 rfl pm_nil) (pr_take 0 rfl pr_nil) (lt rfl)))) (fun gs_ => .d 11 rfl rfl (.d 12 rfl rfl (.d 14 rfl rfl (.nil)))) (.s rfl (fun gs_ => .d 10 rfl rfl (.nil)) hb8) (fun _ => rfl) rfl (fun _ _ _ => rfl) (.x (f := fun gs_ => ⟨38, vBool, !t9.1⟩) 1 (fun gs_ => [⟨37, vBool, t9.1⟩]) rfl (fun gs_ => l_not (o_t rfl) (lt rfl)) (fun gs_ => .d 15 rfl rfl (.nil)) (.s rfl (fun gs_ => .d 10 rfl rfl (.nil)) hb8) (fun _ => rfl) rfl (fun _ _ _ => rfl) (.x (f := fun gs_ => ⟨39, vBool, !t9.1⟩) 1 (fun gs_ => [⟨32, vBool, decide ((p0.c.Acts.length : Int) > (256 : Int))⟩, ⟨38, vBool, !t9.1⟩]) rfl (fun gs_ => l_pickf (o_t rfl) hb8 (o_t rfl) (lt rfl)) (fun gs_ => .d 10 rfl rfl (.d 16 rfl rfl (.nil))) .n (fun _ => rfl) rfl (fun _ _ _ => rfl) (.x (f := fun gs_ => ⟨40, vBool, !t9.1⟩) 1 (fun gs_ => [⟨39, vBool, !t9.1⟩]) rfl (fun gs_ => l_move (o_t rfl) (lt rfl)) (fun gs_ => .d 17 rfl rfl (.nil)) .n (fun _ => rfl) rfl (fun _ _ _ => rfl) (.n (fun gs_ => ⟨40, vBool, !t9.1⟩) rfl (fun _ => rfl) (fun gs_ => .d 18 rfl rfl (.nil)) (fun _ => noy_b (b := false) hb11) (lt rfl) (.n (fun gs_ => ⟨40, vBool, !t9.1⟩) rfl (fun _ => rfl) (fun gs_ => .d 18 rfl rfl (.nil)) (fun _ => noy_b (b := false) hb11) (lt rfl) (.n (fun gs_ => ⟨40, vBool, !t9.1⟩) rfl (fun _ => rfl) (fun gs_ => .d 18 rfl rfl (.nil)) (fun _ => noy_b (b := false) hb11) (lt rfl) (.n (fun gs_ => ⟨40, vBool, !t9.1⟩) rfl (fun _ => rfl) (fun gs_ => .d 18 rfl rfl (.nil)) (fun _ => noy_b (b := false) hb11) (lt rfl) (.n (fun gs_ => ⟨40, vBool, !t9.1⟩) rfl (fun _ => rfl) (fun gs_ => .d 18 rfl rfl (.nil)) (fun _ => noy_b (b := false) hb11) (lt rfl) (.n (fun gs_ => ⟨40, vBool, !t9.1⟩) rfl (fun _ => rfl) (fun gs_ => .d 18 rfl rfl (.nil)) (fun _ => noy_b (b := false) hb11) (lt rfl) (.n (fun gs_ => ⟨40, vBool, !t9.1⟩) rfl (fun _ => rfl) (fun gs_ => .d 18 rfl rfl (.nil)) (fun _ => noy_b (b := false) hb11) (lt rfl) (.x (f := fun gs_ => ⟨48, vBool, true⟩) 1 (fun gs_ => [⟨40, vBool, !t9.1⟩]) rfl (fun gs_ => l_pickt (o_t rfl) hb11 (o_b) (lt rfl)) (fun gs_ => .d 18 rfl rfl (.nil)) .n (fun _ => rfl) rfl (fun _ _ _ => rfl) (.x (f := fun gs_ => ⟨49, vBool, true⟩) 1 (fun gs_ => [⟨48, vBool, true⟩]) rfl (fun gs_ => l_move (o_t rfl) (lt rfl)) (fun gs_ => .d 26 rfl rfl (.nil)) .n (fun _ => rfl) rfl (fun _ _ _ => rfl) (.n (fun gs_ => ⟨49, vBool, true⟩) rfl (fun _ => rfl) (fun gs_ => .d 27 rfl rfl (.nil)) (fun _ => noy_b (b := false) rfl) (lt rfl) (.n (fun gs_ => ⟨49, vBool, true⟩) rfl (fun _ => rfl) (fun gs_ => .d 27 rfl rfl (.nil)) (fun _ => noy_b (b := false) rfl) (lt rfl) (.n (fun gs_ => ⟨49, vBool, true⟩) rfl (fun _ => rfl) (fun gs_ => .d 27 rfl rfl (.nil)) (fun _ => noy_b (b := false) rfl) (lt rfl) (.n (fun gs_ => ⟨49, vBool, true⟩) rfl (fun _ => rfl) (fun gs_ => .d 27 rfl rfl (.nil)) (fun _ => noy_b (b := false) rfl) (lt rfl) (.n (fun gs_ => ⟨49, vBool, true⟩) rfl (fun _ => rfl) (fun gs_ => .d 27 rfl rfl (.nil)) (fun _ => noy_b (b := false) rfl) (lt rfl) (.n (fun gs_ => ⟨49, vBool, true⟩) rfl (fun _ => rfl) (fun gs_ => .d 27 rfl rfl (.nil)) (fun _ => noy_b (b := false) rfl) (lt rfl) (.n (fun gs_ => ⟨49, vBool, true⟩) rfl (fun _ => rfl) (fun gs_ => .d 27 rfl rfl (.nil)) (fun _ => noy_b (b := false) rfl) (lt rfl) (.x (f := fun gs_ => ⟨57, vBool, true⟩) 1 (fun gs_ => [⟨49, vBool, true⟩]) rfl (fun gs_ => l_pickt (o_t rfl) rfl (o_b) (lt rfl)) (fun gs_ => .d 27 rfl rfl (.nil)) .n (fun _ => rfl) rfl (fun _ _ _ => rfl) (.nil))))))))))))))))))))))))))))))))))))) (fun gs_ hgs_ => ?_)
            obtain ⟨gh900_, rfl⟩ := len1 hgs_
            show Kx _ _ [rMap o5 (kInt .i64) (kInt .i64) t9.2] _ _
            refine k_seq ?_
            refine t_ift (o_t rfl) rfl ?_
            refine t_seq ?_
            refine t_reg ?_
            refine st (l_assign (o_b) (lt rfl)) ?_
            refine r_nil (k_seq ?_)
            cases hp_
            exact t_ret (k_tr <| k_drop <| k_ret () rfl rfl rfl rfl rfl)
        · rw [if_pos hb8] at hp_
          refine t_draw [(0, fun gs_ => some ⟨22, vPtr (kSlice k_aHead), p0.c.Heads⟩), (0, fun gs_ => some ⟨23, vSlice k_aHead, p0.c.Heads⟩), (0, fun gs_ => some ⟨24, vInt .i64, (p0.c.Heads.length : Int)⟩), (0, fun gs_ => some ⟨25, vBool, decide ((p0.c.Heads.length : Int) > (256 : Int))⟩), (0, fun gs_ => some ⟨26, vBool, decide ((p0.c.Heads.length : Int) > (256 : Int))⟩), (0, fun gs_ => some ⟨27, vPtr (kSlice k_aAct), p0.c.Acts⟩), (0, fun gs_ => some ⟨28, vSlice k_aAct, p0.c.Acts⟩), (0, fun gs_ => some ⟨29, vInt .i64, (p0.c.Acts.length : Int)⟩), (0, fun gs_ => some ⟨30, vBool, decide ((p0.c.Acts.length : Int) > (256 : Int))⟩), (0, fun gs_ => some ⟨31, vBool, decide ((p0.c.Acts.length : Int) > (256 : Int))⟩), (0, fun gs_ => some ⟨32, vBool, decide ((p0.c.Acts.length : Int) > (256 : Int))⟩), (0, fun _ => some ⟨33, vUnd, ()⟩), (0, fun _ => some ⟨34, vUnd, ()⟩), (0, fun _ => some ⟨35, vUnd, ()⟩), (0, fun _ => some ⟨36, vUnd, ()⟩), (0, fun _ => some ⟨37, vUnd, ()⟩), (0, fun _ => some ⟨38, vUnd, ()⟩), (0, fun gs_ => some ⟨39, vBool, true⟩), (0, fun gs_ => some ⟨40, vBool, true⟩), (0, fun _ => some ⟨41, vUnd, ()⟩), (0, fun _ => some ⟨42, vUnd, ()⟩), (0, fun _ => some ⟨43, vUnd, ()⟩), (0, fun _ => some ⟨44, vUnd, ()⟩), (0, fun _ => some ⟨45, vUnd, ()⟩), (0, fun _ => some ⟨46, vUnd, ()⟩), (0, fun _ => some ⟨47, vUnd, ()⟩), (0, fun gs_ => some ⟨48, vBool, true⟩), (0, fun gs_ => some ⟨49, vBool, true⟩), (0, fun _ => some ⟨50, vUnd, ()⟩), (0, fun _ => some ⟨51, vUnd, ()⟩), (0, fun _ => some ⟨52, vUnd, ()⟩), (0, fun _ => some ⟨53, vUnd, ()⟩), (0, fun _ => some ⟨54, vUnd, ()⟩), (0, fun _ => some ⟨55, vUnd, ()⟩), (0, fun _ => some ⟨56, vUnd, ()⟩), (0, fun gs_ => some ⟨57, vBool, true⟩)] mixed rfl rfl (fun _ => [rMap o5 (kInt .i64) (kInt .i64) []]) [] rfl (.x (f := fun gs_ => ⟨22, vPtr (kSlice k_aHead), p0.c.Heads⟩) 0 (fun gs_ => [⟨3, vPtr k_aCode, p0.c⟩]) rfl (fun gs_ => l_fa (o_t rfl) fl_aCode_1 fa30_1 (lt rfl)) (fun gs_ => .b rfl rfl (.nil)) .n (fun _ => rfl) rfl (fun _ _ _ => rfl) (.x (f := fun gs_ => ⟨23, vSlice k_aHead, p0.c.Heads⟩) 0 (fun gs_ => [⟨22, vPtr (kSlice k_aHead), p0.c.Heads⟩]) rfl (fun gs_ => l_ld (o_t rfl) ty23 (lt rfl)) (fun gs_ => .d 0 rfl rfl (.nil)) .n (fun _ => rfl) rfl (fun _ _ _ => rfl) (.x (f := fun gs_ => ⟨24, vInt .i64, (p0.c.Heads.length : Int)⟩) 0 (fun gs_ => [⟨23, vSlice k_aHead, p0.c.Heads⟩]) rfl (fun gs_ => l_lens (o_t rfl) sl23 (lt rfl)) (fun gs_ => .d 1 rfl rfl (.nil)) .n (fun _ => rfl) rfl (fun _ _ _ => rfl) (.x (f := fun gs_ => ⟨25, vBool, decide ((p0.c.Heads.length : Int) > (256 : Int))⟩) 0 (fun gs_ => [⟨24, vInt .i64, (p0.c.Heads.length : Int)⟩]) rfl (fun gs_ => l_cmp (o_t rfl) (o_i) .gtr (lt rfl)) (fun gs_ => .d 2 rfl rfl (.nil)) .n (fun _ => rfl) rfl (fun _ _ _ => rfl) (.x (f := fun gs_ => ⟨26, vBool, decide ((p0.c.Heads.length : Int) > (256 : Int))⟩) 0 (fun gs_ => [⟨25, vBool, decide ((p0.c.Heads.length : Int) > (256 : Int))⟩]) rfl (fun gs_ => l_move (o_t rfl) (lt rfl)) (fun gs_ => .d 3 rfl rfl (.nil)) .n (fun _ => rfl) rfl (fun _ _ _ => rfl) (.x (f := fun gs_ => ⟨27, vPtr (kSlice k_aAct), p0.c.Acts⟩) 0 (fun gs_ => [⟨3, vPtr k_aCode, p0.c⟩]) rfl (fun gs_ => l_fa (o_t rfl) fl_aCode_5 fa30_5 (lt rfl)) (fun gs_ => .b rfl rfl (.nil)) (.s rfl (fun gs_ => .d 4 rfl rfl (.nil)) hb7) (fun _ => rfl) rfl (fun _ _ _ => rfl) (.x (f := fun gs_ => ⟨28, vSlice k_aAct, p0.c.Acts⟩) 0 (fun gs_ => [⟨27, vPtr (kSlice k_aAct), p0.c.Acts⟩]) rfl (fun gs_ => l_ld (o_t rfl) ty26 (lt rfl)) (fun gs_ => .d 5 rfl rfl (.nil)) (.s rfl (fun gs_ => .d 4 rfl rfl (.nil)) hb7) (fun _ => rfl) rfl (fun _ _ _ => rfl) (.x (f := fun gs_ => ⟨29, vInt .i64, (p0.c.Acts.length : Int)⟩) 0 (fun gs_ => [⟨28, vSlice k_aAct, p0.c.Acts⟩]) rfl (fun gs_ => l_lens (o_t rfl) sl26 (lt rfl)) (fun gs_ => .d 6 rfl rfl (.nil)) (.s rfl (fun gs_ => .d 4 rfl rfl (.nil)) hb7) (fun _ => rfl) rfl (fun _ _ _ => rfl) (.x (f := fun gs_ => ⟨30, vBool, decide ((p0.c.Acts.length : Int) > (256 : Int))⟩) 0 (fun gs_ => [⟨29, vInt .i64, (p0.c.Acts.length : Int)⟩]) rfl (fun gs_ => l_cmp (o_t rfl) (o_i) .gtr (lt rfl)) (fun gs_ => .d 7 rfl rfl (.nil)) (.s rfl (fun gs_ => .d 4 rfl rfl (.nil)) hb7) (fun _ => rfl) rfl (fun _ _ _ => rfl) (.x (f := fun gs_ => ⟨31, vBool, decide ((p0.c.Acts.length : Int) > (256 : Int))⟩) 0 (fun gs_ => [⟨26, vBool, decide ((p0.c.Heads.length : Int) > (256 : Int))⟩, ⟨30, vBool, decide ((p0.c.Acts.length : Int) > (256 : Int))⟩]) rfl (fun gs_ => l_pickf (o_t rfl) hb7 (o_t rfl) (lt rfl)) (fun gs_ => .d 4 rfl rfl (.d 8 rfl rfl (.nil))) .n (fun _ => rfl) rfl (fun _ _ _ => rfl) (.x (f := fun gs_ => ⟨32, vBool, decide ((p0.c.Acts.length : Int) > (256 : Int))⟩) 0 (fun gs_ => [⟨31, vBool, decide ((p0.c.Acts.length : Int) > (256 : Int))⟩]) rfl (fun gs_ => l_move (o_t rfl) (lt rfl)) (fun gs_ => .d 9 rfl rfl (.nil)) .n (fun _ => rfl) rfl (fun _ _ _ => rfl) (.n (fun gs_ => ⟨32, vBool, decide ((p0.c.Acts.length : Int) > (256 : Int))⟩) rfl (fun _ => rfl) (fun gs_ => .d 10 rfl rfl (.nil)) (fun _ => noy_b (b := false) hb8) (lt rfl) (.n (fun gs_ => ⟨32, vBool, decide ((p0.c.Acts.length : Int) > (256 : Int))⟩) rfl (fun _ => rfl) (fun gs_ => .d 10 rfl rfl (.nil)) (fun _ => noy_b (b := false) hb8) (lt rfl) (.n (fun gs_ => ⟨32, vBool, decide ((p0.c.Acts.length : Int) > (256 : Int))⟩) rfl (fun _ => rfl) (fun gs_ => .d 10 rfl rfl (.nil)) (fun _ => noy_b (b := false) hb8) (lt rfl) (.n (fun gs_ => ⟨32, vBool, decide ((p0.c.Acts.length : Int) > (256 : Int))⟩) rfl (fun _ => rfl) (fun gs_ => .d 10 rfl rfl (.nil)) (fun _ => noy_b (b := false) hb8) (lt rfl) (.n (fun gs_ => ⟨32, vBool, decide ((p0.c.Acts.length : Int) > (256 : Int))⟩) rfl (fun _ => rfl) (fun gs_ => .d 10 rfl rfl (.nil)) (fun _ => noy_b (b := false) hb8) (lt rfl) (.n (fun gs_ => ⟨32, vBool, decide ((p0.c.Acts.length : Int) > (256 : Int))⟩) rfl (fun _ => rfl) (fun gs_ => .d 10 rfl rfl (.nil)) (fun _ => noy_b (b := false) hb8) (lt rfl) (.x (f := fun gs_ => ⟨39, vBool, true⟩) 0 (fun gs_ => [⟨32, vBool, decide ((p0.c.Acts.length : Int) > (256 : Int))⟩]) rfl (fun gs_ => l_pickt (o_t rfl) hb8 (o_b) (lt rfl)) (fun gs_ => .d 10 rfl rfl (.nil)) .n (fun _ => rfl) rfl (fun _ _ _ => rfl) (.x (f := fun gs_ => ⟨40, vBool, true⟩) 0 (fun gs_ => [⟨39, vBool, true⟩]) rfl (fun gs_ => l_move (o_t rfl) (lt rfl)) (fun gs_ => .d 17 rfl rfl (.nil)) .n (fun _ => rfl) rfl (fun _ _ _ => rfl) (.n (fun gs_ => ⟨40, vBool, true⟩) rfl (fun _ => rfl) (fun gs_ => .d 18 rfl rfl (.nil)) (fun _ => noy_b (b := false) rfl) (lt rfl) (.n (fun gs_ => ⟨40, vBool, true⟩) rfl (fun _ => rfl) (fun gs_ => .d 18 rfl rfl (.nil)) (fun _ => noy_b (b := false) rfl) (lt rfl) (.n (fun gs_ => ⟨40, vBool, true⟩) rfl (fun _ => rfl) (fun gs_ => .d 18 rfl rfl (.nil)) (fun _ => noy_b (b := false) rfl) (lt rfl) (.n (fun gs_ => ⟨40, vBool, true⟩) rfl (fun _ => rfl) (fun gs_ => .d 18 rfl rfl (.nil)) (fun _ => noy_b (b := false) rfl) (lt rfl) (.n (fun gs_ => ⟨40, vBool, true⟩) rfl (fun _ => rfl) (fun gs_ => .d 18 rfl rfl (.nil)) (fun _ => noy_b (b := false) rfl) (lt rfl) (.n (fun gs_ => ⟨40, vBool, true⟩) rfl (fun _ => rfl) (fun gs_ => .d 18 rfl rfl (.nil)) (fun _ => noy_b (b := false) rfl) (lt rfl) (.n (fun gs_ => ⟨40, vBool, true⟩) rfl (fun _ => rfl) (fun gs_ => .d 18 rfl rfl (.nil)) (fun _ => noy_b (b := false) rfl) (lt rfl) (.x (f := fun gs_ => ⟨48, vBool, true⟩) 0 (fun gs_ => [⟨40, vBool, true⟩]) rfl (fun gs_ => l_pickt (o_t rfl) rfl (o_b) (lt rfl)) (fun gs_ => .d 18 rfl rfl (.nil)) .n (fun _ => rfl) rfl (fun _ _ _ => rfl) (.x (f := fun gs_ => ⟨49, vBool, true⟩) 0 (fun gs_ => [⟨48, vBool, true⟩]) rfl (fun gs_ => l_move (o_t rfl) (lt rfl)) (fun gs_ => .d 26 rfl rfl (.nil)) .n (fun _ => rfl) rfl (fun _ _ _ => rfl) (.n (fun gs_ => ⟨49, vBool, true⟩) rfl (fun _ => rfl) (fun gs_ => .d 27 rfl rfl (.nil)) (fun _ => noy_b (b := false) rfl) (lt rfl) (.n (fun gs_ => ⟨49, vBool, true⟩) rfl (fun _ => rfl) (fun gs_ => .d 27 rfl rfl (.nil)) (fun _ => noy_b (b := false) rfl) (lt rfl) (.n (fun gs_ => ⟨49, vBool, true⟩) rfl (fun _ => rfl) (fun gs_ => .d 27 rfl rfl (.nil)) (fun _ => noy_b (b := false) rfl) (lt rfl) (.n (fun gs_ => ⟨49, vBool, true⟩) rfl (fun _ => rfl) (fun gs_ => .d 27 rfl rfl (.nil)) (fun _ => noy_b (b := false) rfl) (lt rfl) (.n (fun gs_ => ⟨49, vBool, true⟩) rfl (fun _ => rfl) (fun gs_ => .d 27 rfl rfl (.nil)) (fun _ => noy_b (b := false) rfl) (lt rfl) (.n (fun gs_ => ⟨49, vBool, true⟩) rfl (fun _ => rfl) (fun gs_ => .d 27 rfl rfl (.nil)) (fun _ => noy_b (b := false) rfl) (lt rfl) (.n (fun gs_ => ⟨49, vBool, true⟩) rfl (fun _ => rfl) (fun gs_ => .d 27 rfl rfl (.nil)) (fun _ => noy_b (b := false) rfl) (lt rfl) (.x (f := fun gs_ => ⟨57, vBool, true⟩) 0 (fun gs_ => [⟨49, vBool, true⟩]) rfl (fun gs_ => l_pickt (o_t rfl) rfl (o_b) (lt rfl)) (fun gs_ => .d 27 rfl rfl (.nil)) .n (fun _ => rfl) rfl (fun _ _ _ => rfl) (.nil))))))))))))))))))))))))))))))))))))) (fun gs_ hgs_ => ?_)
          refine k_seq ?_
          refine t_ift (o_t rfl) rfl ?_
          refine t_seq ?_
          refine t_reg ?_
          refine st (l_assign (o_b) (lt rfl)) ?_
          refine r_nil (k_seq ?_)
          cases hp_
          exact t_ret (k_tr <| k_drop <| k_ret () rfl rfl rfl rfl rfl)
      · rw [if_pos hb7] at hp_
        refine t_draw [(0, fun gs_ => some ⟨22, vPtr (kSlice k_aHead), p0.c.Heads⟩), (0, fun gs_ => some ⟨23, vSlice k_aHead, p0.c.Heads⟩), (0, fun gs_ => some ⟨24, vInt .i64, (p0.c.Heads.length : Int)⟩), (0, fun gs_ => some ⟨25, vBool, decide ((p0.c.Heads.length : Int) > (256 : Int))⟩), (0, fun gs_ => some ⟨26, vBool, decide ((p0.c.Heads.length : Int) > (256 : Int))⟩), (0, fun _ => some ⟨27, vUnd, ()⟩), (0, fun _ => some ⟨28, vUnd, ()⟩), (0, fun _ => some ⟨29, vUnd, ()⟩), (0, fun _ => some ⟨30, vUnd, ()⟩), (0, fun gs_ => some ⟨31, vBool, true⟩), (0, fun gs_ => some ⟨32, vBool, true⟩), (0, fun _ => some ⟨33, vUnd, ()⟩), (0, fun _ => some ⟨34, vUnd, ()⟩), (0, fun _ => some ⟨35, vUnd, ()⟩), (0, fun _ => some ⟨36, vUnd, ()⟩), (0, fun _ => some ⟨37, vUnd, ()⟩), (0, fun _ => some ⟨38, vUnd, ()⟩), (0, fun gs_ => some ⟨39, vBool, true⟩), (0, fun gs_ => some ⟨40, vBool, true⟩), (0, fun _ => some ⟨41, vUnd, ()⟩), (0, fun _ => some ⟨42, vUnd, ()⟩), (0, fun _ => some ⟨43, vUnd, ()⟩), (0, fun _ => some ⟨44, vUnd, ()⟩), (0, fun _ => some ⟨45, vUnd, ()⟩), (0, fun _ => some ⟨46, vUnd, ()⟩), (0, fun _ => some ⟨47, vUnd, ()⟩), (0, fun gs_ => some ⟨48, vBool, true⟩), (0, fun gs_ => some ⟨49, vBool, true⟩), (0, fun _ => some ⟨50, vUnd, ()⟩), (0, fun _ => some ⟨51, vUnd, ()⟩), (0, fun _ => some ⟨52, vUnd, ()⟩), (0, fun _ => some ⟨53, vUnd, ()⟩), (0, fun _ => some ⟨54, vUnd, ()⟩), (0, fun _ => some ⟨55, vUnd, ()⟩), (0, fun _ => some ⟨56, vUnd, ()⟩), (0, fun gs_ => some ⟨57, vBool, true⟩)] mixed rfl rfl (fun _ => [rMap o5 (kInt .i64) (kInt .i64) []]) [] rfl (.x (f := fun gs_ => ⟨22, vPtr (kSlice k_aHead), p0.c.Heads⟩) 0 (fun gs_ => [⟨3, vPtr k_aCode, p0.c⟩]) rfl (fun gs_ => l_fa (o_t rfl) fl_aCode_1 fa30_1 (lt rfl)) (fun gs_ => .b rfl rfl (.nil)) .n (fun _ => rfl) rfl (fun _ _ _ => rfl) (.x (f := fun gs_ => ⟨23, vSlice k_aHead, p0.c.Heads⟩) 0 (fun gs_ => [⟨22, vPtr (kSlice k_aHead), p0.c.Heads⟩]) rfl (fun gs_ => l_ld (o_t rfl) ty23 (lt rfl)) (fun gs_ => .d 0 rfl rfl (.nil)) .n (fun _ => rfl) rfl (fun _ _ _ => rfl) (.x (f := fun gs_ => ⟨24, vInt .i64, (p0.c.Heads.length : Int)⟩) 0 (fun gs_ => [⟨23, vSlice k_aHead, p0.c.Heads⟩]) rfl (fun gs_ => l_lens (o_t rfl) sl23 (lt rfl)) (fun gs_ => .d 1 rfl rfl (.nil)) .n (fun _ => rfl) rfl (fun _ _ _ => rfl) (.x (f := fun gs_ => ⟨25, vBool, decide ((p0.c.Heads.length : Int) > (256 : Int))⟩) 0 (fun gs_ => [⟨24, vInt .i64, (p0.c.Heads.length : Int)⟩]) rfl (fun gs_ => l_cmp (o_t rfl) (o_i) .gtr (lt rfl)) (fun gs_ => .d 2 rfl rfl (.nil)) .n (fun _ => rfl) rfl (fun _ _ _ => rfl) (.x (f := fun gs_ => ⟨26, vBool, decide ((p0.c.Heads.length : Int) > (256 : Int))⟩) 0 (fun gs_ => [⟨25, vBool, decide ((p0.c.Heads.length : Int) > (256 : Int))⟩]) rfl (fun gs_ => l_move (o_t rfl) (lt rfl)) (fun gs_ => .d 3 rfl rfl (.nil)) .n (fun _ => rfl) rfl (fun _ _ _ => rfl) (.n (fun gs_ => ⟨26, vBool, decide ((p0.c.Heads.length : Int) > (256 : Int))⟩) rfl (fun _ => rfl) (fun gs_ => .d 4 rfl rfl (.nil)) (fun _ => noy_b (b := false) hb7) (lt rfl) (.n (fun gs_ => ⟨26, vBool, decide ((p0.c.Heads.length : Int) > (256 : Int))⟩) rfl (fun _ => rfl) (fun gs_ => .d 4 rfl rfl (.nil)) (fun _ => noy_b (b := false) hb7) (lt rfl) (.n (fun gs_ => ⟨26, vBool, decide ((p0.c.Heads.length : Int) > (256 : Int))⟩) rfl (fun _ => rfl) (fun gs_ => .d 4 rfl rfl (.nil)) (fun _ => noy_b (b := false) hb7) (lt rfl) (.n (fun gs_ => ⟨26, vBool, decide ((p0.c.Heads.length : Int) > (256 : Int))⟩) rfl (fun _ => rfl) (fun gs_ => .d 4 rfl rfl (.nil)) (fun _ => noy_b (b := false) hb7) (lt rfl) (.x (f := fun gs_ => ⟨31, vBool, true⟩) 0 (fun gs_ => [⟨26, vBool, decide ((p0.c.Heads.length : Int) > (256 : Int))⟩]) rfl (fun gs_ => l_pickt (o_t rfl) hb7 (o_b) (lt rfl)) (fun gs_ => .d 4 rfl rfl (.nil)) .n (fun _ => rfl) rfl (fun _ _ _ => rfl) (.x (f := fun gs_ => ⟨32, vBool, true⟩) 0 (fun gs_ => [⟨31, vBool, true⟩]) rfl (fun gs_ => l_move (o_t rfl) (lt rfl)) (fun gs_ => .d 9 rfl rfl (.nil)) .n (fun _ => rfl) rfl (fun _ _ _ => rfl) (.n (fun gs_ => ⟨32, vBool, true⟩) rfl (fun _ => rfl) (fun gs_ => .d 10 rfl rfl (.nil)) (fun _ => noy_b (b := false) rfl) (lt rfl) (.n (fun gs_ => ⟨32, vBool, true⟩) rfl (fun _ => rfl) (fun gs_ => .d 10 rfl rfl (.nil)) (fun _ => noy_b (b := false) rfl) (lt rfl) (.n (fun gs_ => ⟨32, vBool, true⟩) rfl (fun _ => rfl) (fun gs_ => .d 10 rfl rfl (.nil)) (fun _ => noy_b (b := false) rfl) (lt rfl) (.n (fun gs_ => ⟨32, vBool, true⟩) rfl (fun _ => rfl) (fun gs_ => .d 10 rfl rfl (.nil)) (fun _ => noy_b (b := false) rfl) (lt rfl) (.n (fun gs_ => ⟨32, vBool, true⟩) rfl (fun _ => rfl) (fun gs_ => .d 10 rfl rfl (.nil)) (fun _ => noy_b (b := false) rfl) (lt rfl) (.n (fun gs_ => ⟨32, vBool, true⟩) rfl (fun _ => rfl) (fun gs_ => .d 10 rfl rfl (.nil)) (fun _ => noy_b (b := false) rfl) (lt rfl) (.x (f := fun gs_ => ⟨39, vBool, true⟩) 0 (fun gs_ => [⟨32, vBool, true⟩]) rfl (fun gs_ => l_pickt (o_t rfl) rfl (o_b) (lt rfl)) (fun gs_ => .d 10 rfl rfl (.nil)) .n (fun _ => rfl) rfl (fun _ _ _ => rfl) (.x (f := fun gs_ => ⟨40, vBool, true⟩) 0 (fun gs_ => [⟨39, vBool, true⟩]) rfl (fun gs_ => l_move (o_t rfl) (lt rfl)) (fun gs_ => .d 17 rfl rfl (.nil)) .n (fun _ => rfl) rfl (fun _ _ _ => rfl) (.n (fun gs_ => ⟨40, vBool, true⟩) rfl (fun _ => rfl) (fun gs_ => .d 18 rfl rfl (.nil)) (fun _ => noy_b (b := false) rfl) (lt rfl) (.n (fun gs_ => ⟨40, vBool, true⟩) rfl (fun _ => rfl) (fun gs_ => .d 18 rfl rfl (.nil)) (fun _ => noy_b (b := false) rfl) (lt rfl) (.n (fun gs_ => ⟨40, vBool, true⟩) rfl (fun _ => rfl) (fun gs_ => .d 18 rfl rfl (.nil)) (fun _ => noy_b (b := false) rfl) (lt rfl) (.n (fun gs_ => ⟨40, vBool, true⟩) rfl (fun _ => rfl) (fun gs_ => .d 18 rfl rfl (.nil)) (fun _ => noy_b (b := false) rfl) (lt rfl) (.n (fun gs_ => ⟨40, vBool, true⟩) rfl (fun _ => rfl) (fun gs_ => .d 18 rfl rfl (.nil)) (fun _ => noy_b (b := false) rfl) (lt rfl) (.n (fun gs_ => ⟨40, vBool, true⟩) rfl (fun _ => rfl) (fun gs_ => .d 18 rfl rfl (.nil)) (fun _ => noy_b (b := false) rfl) (lt rfl) (.n (fun gs_ => ⟨40, vBool, true⟩) rfl (fun _ => rfl) (fun gs_ => .d 18 rfl rfl (.nil)) (fun _ => noy_b (b := false) rfl) (lt rfl) (.x (f := fun gs_ => ⟨48, vBool, true⟩) 0 (fun gs_ => [⟨40, vBool, true⟩]) rfl (fun gs_ => l_pickt (o_t rfl) rfl (o_b) (lt rfl)) (fun gs_ => .d 18 rfl rfl (.nil)) .n (fun _ => rfl) rfl (fun _ _ _ => rfl) (.x (f := fun gs_ => ⟨49, vBool, true⟩) 0 (fun gs_ => [⟨48, vBool, true⟩]) rfl (fun gs_ => l_move (o_t rfl) (lt rfl)) (fun gs_ => .d 26 rfl rfl (.nil)) .n (fun _ => rfl) rfl (fun _ _ _ => rfl) (.n (fun gs_ => ⟨49, vBool, true⟩) rfl (fun _ => rfl) (fun gs_ => .d 27 rfl rfl (.nil)) (fun _ => noy_b (b := false) rfl) (lt rfl) (.n (fun gs_ => ⟨49, vBool, true⟩) rfl (fun _ => rfl) (fun gs_ => .d 27 rfl rfl (.nil)) (fun _ => noy_b (b := false) rfl) (lt rfl) (.n (fun gs_ => ⟨49, vBool, true⟩) rfl (fun _ => rfl) (fun gs_ => .d 27 rfl rfl (.nil)) (fun _ => noy_b (b := false) rfl) (lt rfl) (.n (fun gs_ => ⟨49, vBool, true⟩) rfl (fun _ => rfl) (fun gs_ => .d 27 rfl rfl (.nil)) (fun _ => noy_b (b := false) rfl) (lt rfl) (.n (fun gs_ => ⟨49, vBool, true⟩) rfl (fun _ => rfl) (fun gs_ => .d 27 rfl rfl (.nil)) (fun _ => noy_b (b := false) rfl) (lt rfl) (.n (fun gs_ => ⟨49, vBool, true⟩) rfl (fun _ => rfl) (fun gs_ => .d 27 rfl rfl (.nil)) (fun _ => noy_b (b := false) rfl) (lt rfl) (.n (fun gs_ => ⟨49, vBool, true⟩) rfl (fun _ => rfl) (fun gs_ => .d 27 rfl rfl (.nil)) (fun _ => noy_b (b := false) rfl) (lt rfl) (.x (f := fun gs_ => ⟨57, vBool, true⟩) 0 (fun gs_ => [⟨49, vBool, true⟩]) rfl (fun gs_ => l_pickt (o_t rfl) rfl (o_b) (lt rfl)) (fun gs_ => .d 27 rfl rfl (.nil)) .n (fun _ => rfl) rfl (fun _ _ _ => rfl) (.nil))))))))))))))))))))))))))))))))))))) (fun gs_ hgs_ => ?_)
        refine k_seq ?_
        refine t_ift (o_t rfl) rfl ?_
        refine t_seq ?_
        refine t_reg ?_
        refine st (l_assign (o_b) (lt rfl)) ?_
        refine r_nil (k_seq ?_)
        cases hp_
        exact t_ret (k_tr <| k_drop <| k_ret () rfl rfl rfl rfl rfl)
    · rw [if_pos hb4] at hp_
      refine t_ift (o_t rfl) hb4 ?_
      refine t_seq ?_
      refine t_reg ?_
      refine st (l_assign (o_b) (lt rfl)) ?_
      refine r_nil (k_seq ?_)
      cases hp_
      exact t_ret (k_tr <| k_ret () rfl rfl rfl rfl rfl)
  · rw [if_pos hb1] at hp_
    refine g_n ⟨16, vBool, decide ((p0.c.Slots.length : Int) > (65536 : Int))⟩ rfl rfl (noy_b (b := false) hb1) (lt rfl) ?_
    refine g_n ⟨16, vBool, decide ((p0.c.Slots.length : Int) > (65536 : Int))⟩ rfl rfl (noy_b (b := false) hb1) (lt rfl) ?_
    refine g_n ⟨16, vBool, decide ((p0.c.Slots.length : Int) > (65536 : Int))⟩ rfl rfl (noy_b (b := false) hb1) (lt rfl) ?_
    refine st (l_pickt (o_t rfl) hb1 (o_b) (lt rfl)) ?_
    refine r_nil (k_seq ?_)
    refine t_ift (o_t rfl) rfl ?_
    refine t_seq ?_
    refine t_reg ?_
    refine st (l_assign (o_b) (lt rfl)) ?_
    refine r_nil (k_seq ?_)
    cases hp_
    exact t_ret (k_tr <| k_ret () rfl rfl rfl rfl rfl)
-- slices.Index[[]int,int]
theorem ok76 (s : List Int) (v : Int) (y_ : Int) (hp_ : slices_Index_int_int s v = some y_) : FP Tryz.prog 76 [⟨vSlice (kInt .i64), s⟩, ⟨vInt .i64, v⟩] (vInt .i64) y_ := by
  unfold slices_Index_int_int at hp_
  refine fc_of 19 Tryz.func76 rfl fn76 rfl (Nat.le_of_ble_eq_true rfl) fun I_ w_ F_ => ?_
  refine t_seq ?_
  refine t_reg ?_
  refine st (l_assign (o_i) (lt rfl)) ?_
  refine r_nil (k_seq ?_)
  refine t_seq ?_
  refine t_seq ?_
  refine t_reg ?_
  refine st (l_move (o_t rfl) (lt rfl)) ?_
  refine st (l_lens (o_t rfl) sl22 (lt rfl)) ?_
  refine st (l_move (o_i) (lt rfl)) ?_
  refine r_nil (k_seq ?_)
  obtain ⟨res1_, hl1_0, hx1_⟩ := bs hp_
  clear hp_
  refine t_sub (Γ' := [⟨8, vInt .i64, (0 : Int)⟩, ⟨0, vSlice (kInt .i64), s⟩, ⟨1, vInt .i64, v⟩, ⟨7, vInt .i64, (s.length : Int)⟩]) (Sub.cons rfl (Sub.cons rfl (Sub.cons rfl (Sub.cons rfl (Sub.nil _))))) ?_
  refine t_bloop (β := Nat × Int) (σ := Unit) (fun x_ => [⟨8, vInt .i64, x_.2⟩, ⟨0, vSlice (kInt .i64), s⟩, ⟨1, vInt .i64, v⟩, ⟨7, vInt .i64, (s.length : Int)⟩]) (fun x_ => []) (fun x_ => slices_Index_int.l1 x_.1 s v x_.2 = some res1_) (fun x_ => x_.1) (fun x_ => []) (fun x_ => []) (fun x_ => res1_ = .go x_) ?_ ?_ ((((s.length : Int) - (0 : Int)).toNat + 1), (0 : Int)) hl1_0
  · rintro ⟨k1_, v8_1⟩ hl1_
    rcases k1_ with _ | k1_
    · exact absurd (show none = some res1_ from hl1_) (by simp)
    replace hl1_ : slices_Index_int.l1 (k1_ + 1) s v v8_1 = some res1_ := hl1_
    rw [slices_Index_int.l1.eq_2] at hl1_
    show Tr Tryz.prog _ [⟨8, vInt .i64, v8_1⟩, ⟨0, vSlice (kInt .i64), s⟩, ⟨1, vInt .i64, v⟩, ⟨7, vInt .i64, (s.length : Int)⟩] [] _ _
    refine t_seq ?_
    refine t_reg ?_
    refine st (l_cmp (o_t rfl) (o_t rfl) .lss (lt rfl)) ?_
    refine r_nil (k_seq ?_)
    refine t_seq ?_
    rcases bt (decide (v8_1 < (s.length : Int))) with hb1 | hb1
    · rw [if_neg (nt hb1)] at hl1_
      refine t_iff (o_t rfl) hb1 ?_
      exact t_exit (k_te <| k_te <| k_be <| k_brk () (Option.some.inj hl1_).symm (Sub.nil _) rfl)
    · rw [if_pos hb1] at hl1_
      refine t_ift (o_t rfl) hb1 ?_
      refine t_skip (k_seq ?_)
      refine t_seq ?_
      refine t_blk ?_
      refine t_seq ?_
      refine t_reg ?_
      refine st (l_move (o_t rfl) (lt rfl)) ?_
      refine st (l_assign (o_t rfl) (lt rfl)) ?_
      refine r_nil (k_seq ?_)
      refine t_seq ?_
      refine t_reg ?_
      refine st (l_move (o_t rfl) (lt rfl)) ?_
      refine st (l_move (o_t rfl) (lt rfl)) ?_
      refine st (l_move (o_t rfl) (lt rfl)) ?_
      obtain ⟨t2, h3, hl1_⟩ := bs hl1_
      refine st (l_ia (o_t rfl) (o_t rfl) h3 sl22 sz3 (lt rfl)) ?_
      refine st (l_ld (o_t rfl) ty3 (lt rfl)) ?_
      refine st (l_cmp (o_t rfl) (o_t rfl) .eql (lt rfl)) ?_
      refine r_nil (k_seq ?_)
      rcases bt (v == t2) with hb4 | hb4
      · rw [if_neg (nt hb4)] at hl1_
        refine t_iff (o_t rfl) hb4 ?_
        refine t_skip (k_bn <| k_seq ?_)
        refine t_reg ?_
        refine st (l_bin (o_t rfl) (o_i) .add (lt rfl)) ?_
        refine st (l_move (o_t rfl) (lt rfl)) ?_
        exact r_nil (k_again (k1_, IntKind.wrap .i64 (v8_1 + (1 : Int))) hl1_ (Nat.lt_succ_self _) (Sub.cons rfl (Sub.cons rfl (Sub.cons rfl (Sub.cons rfl (Sub.nil _))))) rfl)
      · rw [if_pos hb4] at hl1_
        refine t_ift (o_t rfl) hb4 ?_
        refine t_seq ?_
        refine t_reg ?_
        refine st (l_move (o_t rfl) (lt rfl)) ?_
        refine st (l_assign (o_t rfl) (lt rfl)) ?_
        refine r_nil (k_seq ?_)
        cases hl1_
        dsimp only [Ex.elim] at hx1_
        cases hx1_
        exact t_ret (k_br <| k_tr <| k_tr <| k_br <| k_brk_r <| k_tr <| k_ret () rfl rfl rfl rfl rfl)
  · intro s1_ hs1_
    replace hs1_ : res1_ = .go s1_ := hs1_
    subst hs1_
    dsimp only [Ex.elim] at hx1_
    have hp_ := hx1_
    clear hx1_
    show Kx _ [] [] _ _
    refine k_seq ?_
    refine t_seq ?_
    refine t_reg ?_
    refine st (l_assign (o_i) (lt rfl)) ?_
    refine r_nil (k_seq ?_)
    cases hp_
    exact t_ret (k_ret () rfl rfl rfl rfl rfl)
-- slices.Contains[[]int,int]
theorem ok48 (s : List Int) (v : Int) (y_ : Bool) (hp_ : slices_Contains_int_int s v = some y_) : FP Tryz.prog 48 [⟨vSlice (kInt .i64), s⟩, ⟨vInt .i64, v⟩] vBool y_ := by
  unfold slices_Contains_int_int at hp_
  refine fc_of 9 Tryz.func48 rfl fn48 rfl (Nat.le_of_ble_eq_true rfl) fun I_ w_ F_ => ?_
  refine t_seq ?_
  refine t_reg ?_
  refine st (l_assign (o_b) (lt rfl)) ?_
  refine r_nil (k_seq ?_)
  refine t_seq ?_
  refine t_reg ?_
  refine st (l_move (o_t rfl) (lt rfl)) ?_
  refine st (l_move (o_t rfl) (lt rfl)) ?_
  obtain ⟨t1, h2, hp_⟩ := bs hp_
  refine st (l_call (ok76 s v _ h2) (.cons (o_t rfl) (.cons (o_t rfl) (.nil))) (lt rfl)) ?_
  refine st (l_cmp (o_t rfl) (o_i) .geq (lt rfl)) ?_
  refine st (l_assign (o_t rfl) (lt rfl)) ?_
  refine r_nil (k_seq ?_)
  cases hp_
  exact t_ret (k_ret () rfl rfl rfl rfl rfl)
-- pointsman/code.once
theorem ok16 (l : List Int) (most : Int) (y_ : Bool) (hp_ : code_once l most = some y_) : FP Tryz.prog 16 [⟨vSlice (kInt .i64), l⟩, ⟨vInt .i64, most⟩] vBool y_ := by
  unfold code_once at hp_
  refine fc_of 26 Tryz.func16 rfl fn16 rfl (Nat.le_of_ble_eq_true rfl) fun I_ w_ F_ => ?_
  refine t_seq ?_
  refine t_reg ?_
  refine st (l_assign (o_b) (lt rfl)) ?_
  refine r_nil (k_seq ?_)
  refine t_seq ?_
  refine t_seq ?_
  refine t_reg ?_
  refine st (l_move (o_t rfl) (lt rfl)) ?_
  refine st (l_lens (o_t rfl) sl22 (lt rfl)) ?_
  refine st (l_move (o_i) (lt rfl)) ?_
  refine r_nil (k_seq ?_)
  obtain ⟨res1_, hl1_0, hx1_⟩ := bs hp_
  clear hp_
  refine t_sub (Γ' := [⟨9, vInt .i64, (0 : Int)⟩, ⟨0, vSlice (kInt .i64), l⟩, ⟨1, vInt .i64, most⟩, ⟨7, vSlice (kInt .i64), l⟩, ⟨8, vInt .i64, (l.length : Int)⟩]) (Sub.cons rfl (Sub.cons rfl (Sub.cons rfl (Sub.cons rfl (Sub.cons rfl (Sub.nil _)))))) ?_
  refine t_bloop (β := Nat × Int) (σ := Unit) (fun x_ => [⟨9, vInt .i64, x_.2⟩, ⟨0, vSlice (kInt .i64), l⟩, ⟨1, vInt .i64, most⟩, ⟨7, vSlice (kInt .i64), l⟩, ⟨8, vInt .i64, (l.length : Int)⟩]) (fun x_ => []) (fun x_ => code_once.l1 x_.1 l most x_.2 = some res1_) (fun x_ => x_.1) (fun x_ => []) (fun x_ => []) (fun x_ => res1_ = .go x_) ?_ ?_ ((((l.length : Int) - (0 : Int)).toNat + 1), (0 : Int)) hl1_0
  · rintro ⟨k1_, v9_1⟩ hl1_
    rcases k1_ with _ | k1_
    · exact absurd (show none = some res1_ from hl1_) (by simp)
    replace hl1_ : code_once.l1 (k1_ + 1) l most v9_1 = some res1_ := hl1_
    rw [code_once.l1.eq_2] at hl1_
    show Tr Tryz.prog _ [⟨9, vInt .i64, v9_1⟩, ⟨0, vSlice (kInt .i64), l⟩, ⟨1, vInt .i64, most⟩, ⟨7, vSlice (kInt .i64), l⟩, ⟨8, vInt .i64, (l.length : Int)⟩] [] _ _
    refine t_seq ?_
    refine t_reg ?_
    refine st (l_cmp (o_t rfl) (o_t rfl) .lss (lt rfl)) ?_
    refine r_nil (k_seq ?_)
    refine t_seq ?_
    rcases bt (decide (v9_1 < (l.length : Int))) with hb1 | hb1
    · rw [if_neg (nt hb1)] at hl1_
      refine t_iff (o_t rfl) hb1 ?_
      exact t_exit (k_te <| k_te <| k_be <| k_brk () (Option.some.inj hl1_).symm (Sub.nil _) rfl)
    · rw [if_pos hb1] at hl1_
      refine t_ift (o_t rfl) hb1 ?_
      refine t_skip (k_seq ?_)
      refine t_seq ?_
      refine t_blk ?_
      refine t_seq ?_
      refine t_reg ?_
      refine st (l_move (o_t rfl) (lt rfl)) ?_
      obtain ⟨t2, h3, hl1_⟩ := bs hl1_
      refine st (l_ia (o_t rfl) (o_t rfl) h3 sl22 sz3 (lt rfl)) ?_
      refine st (l_ld (o_t rfl) ty3 (lt rfl)) ?_
      refine st (l_assign (o_t rfl) (lt rfl)) ?_
      refine st (l_assign (o_t rfl) (lt rfl)) ?_
      refine r_nil (k_seq ?_)
      refine t_seq ?_
      refine t_reg ?_
      refine st (l_move (o_t rfl) (lt rfl)) ?_
      refine st (l_move (o_t rfl) (lt rfl)) ?_
      obtain ⟨t4, h5, hl1_⟩ := bs hl1_
      refine st (l_call (ok47 t2 most _ h5) (.cons (o_t rfl) (.cons (o_t rfl) (.nil))) (lt rfl)) ?_
      refine st (l_not (o_t rfl) (lt rfl)) ?_
      refine st (l_move (o_t rfl) (lt rfl)) ?_
      rcases bt (!t4) with hb6 | hb6
      · rw [if_neg (nt hb6)] at hl1_
        refine g_t rfl rfl hb6 ?_
        refine st (l_move (o_t rfl) (lt rfl)) ?_
        refine g_t rfl rfl hb6 ?_
        refine st (l_move (o_t rfl) (lt rfl)) ?_
        refine g_t rfl rfl hb6 ?_
        obtain ⟨t7, h8, hl1_⟩ := bs hl1_
        refine st (l_sl (o_t rfl) oo_n (oo_s (o_t rfl)) h8 sl22 sz3 (lt rfl)) ?_
        refine g_t rfl rfl hb6 ?_
        refine st (l_move (o_t rfl) (lt rfl)) ?_
        refine g_t rfl rfl hb6 ?_
        obtain ⟨t9, h10, hl1_⟩ := bs hl1_
        refine st (l_call (ok48 t7 t2 _ h10) (.cons (o_t rfl) (.cons (o_t rfl) (.nil))) (lt rfl)) ?_
        refine st (l_pickf (o_t rfl) hb6 (o_t rfl) (lt rfl)) ?_
        refine r_nil (k_seq ?_)
        rcases bt (t9) with hb11 | hb11
        · rw [if_neg (nt hb11)] at hl1_
          refine t_iff (o_t rfl) hb11 ?_
          refine t_skip (k_bn <| k_seq ?_)
          refine t_reg ?_
          refine st (l_bin (o_t rfl) (o_i) .add (lt rfl)) ?_
          refine st (l_move (o_t rfl) (lt rfl)) ?_
          exact r_nil (k_again (k1_, IntKind.wrap .i64 (v9_1 + (1 : Int))) hl1_ (Nat.lt_succ_self _) (Sub.cons rfl (Sub.cons rfl (Sub.cons rfl (Sub.cons rfl (Sub.cons rfl (Sub.nil _)))))) rfl)
        · rw [if_pos hb11] at hl1_
          refine t_ift (o_t rfl) hb11 ?_
          refine t_seq ?_
          refine t_reg ?_
          refine st (l_assign (o_b) (lt rfl)) ?_
          refine r_nil (k_seq ?_)
          cases hl1_
          dsimp only [Ex.elim] at hx1_
          cases hx1_
          exact t_ret (k_br <| k_tr <| k_tr <| k_br <| k_brk_r <| k_tr <| k_ret () rfl rfl rfl rfl rfl)
      · rw [if_pos hb6] at hl1_
        refine g_n ⟨18, vBool, !t4⟩ rfl rfl (noy_b (b := false) hb6) (lt rfl) ?_
        refine g_n ⟨18, vBool, !t4⟩ rfl rfl (noy_b (b := false) hb6) (lt rfl) ?_
        refine g_n ⟨18, vBool, !t4⟩ rfl rfl (noy_b (b := false) hb6) (lt rfl) ?_
        refine g_n ⟨18, vBool, !t4⟩ rfl rfl (noy_b (b := false) hb6) (lt rfl) ?_
        refine g_n ⟨18, vBool, !t4⟩ rfl rfl (noy_b (b := false) hb6) (lt rfl) ?_
        refine st (l_pickt (o_t rfl) hb6 (o_b) (lt rfl)) ?_
        refine r_nil (k_seq ?_)
        refine t_ift (o_t rfl) rfl ?_
        refine t_seq ?_
        refine t_reg ?_
        refine st (l_assign (o_b) (lt rfl)) ?_
        refine r_nil (k_seq ?_)
        cases hl1_
        dsimp only [Ex.elim] at hx1_
        cases hx1_
        exact t_ret (k_br <| k_tr <| k_tr <| k_br <| k_brk_r <| k_tr <| k_ret () rfl rfl rfl rfl rfl)
  · intro s1_ hs1_
    replace hs1_ : res1_ = .go s1_ := hs1_
    subst hs1_
    dsimp only [Ex.elim] at hx1_
    have hp_ := hx1_
    clear hx1_
    show Kx _ [] [] _ _
    refine k_seq ?_
    refine t_seq ?_
    refine t_reg ?_
    refine st (l_assign (o_b) (lt rfl)) ?_
    refine r_nil (k_seq ?_)
    cases hp_
    exact t_ret (k_ret () rfl rfl rfl rfl rfl)
-- pointsman/code.array
theorem ok19 (a : aArr) (y_ : Bool) (hp_ : code_array a = some y_) : FP Tryz.prog 19 [⟨(k_aArr).v, a⟩] vBool y_ := by
  unfold code_array at hp_
  refine fc_of 21 Tryz.func19 rfl fn19 rfl (Nat.le_of_ble_eq_true rfl) fun I_ w_ F_ => ?_
  refine t_seq ?_
  refine t_reg ?_
  refine st (l_box (o_t rfl) (lt rfl)) ?_
  refine st (l_assign (o_b) (lt rfl)) ?_
  refine r_nil (k_seq ?_)
  refine t_seq ?_
  refine t_seq ?_
  refine t_reg ?_
  refine st (l_fa (o_t rfl) fl_aArr_1 fa59_1 (lt rfl)) ?_
  refine st (l_ld (o_t rfl) ty57 (lt rfl)) ?_
  refine r_nil (k_seq ?_)
  refine t_blk ?_
  refine t_seq ?_
  refine t_reg ?_
  refine st (l_cmp (o_t rfl) (o_i) .eql (lt rfl)) ?_
  refine st (l_assign (o_t rfl) (lt rfl)) ?_
  refine r_nil (k_seq ?_)
  rcases bt (a.Kind == (3 : Int)) with hb1 | hb1
  · rw [if_neg (nt hb1)] at hp_
    refine t_iff (o_t rfl) hb1 ?_
    refine t_seq ?_
    refine t_seq ?_
    refine t_reg ?_
    refine st (l_cmp (o_t rfl) (o_i) .eql (lt rfl)) ?_
    refine st (l_assign (o_t rfl) (lt rfl)) ?_
    refine r_nil (k_seq ?_)
    rcases bt (a.Kind == (4 : Int)) with hb2 | hb2
    · rw [if_neg (nt hb2)] at hp_
      refine t_iff (o_t rfl) hb2 ?_
      refine t_reg ?_
      refine st (l_cmp (o_t rfl) (o_i) .eql (lt rfl)) ?_
      refine st (l_assign (o_t rfl) (lt rfl)) ?_
      refine r_nil (k_seq ?_)
      rcases bt (a.Kind == (5 : Int)) with hb3 | hb3
      · rw [if_neg (nt hb3)] at hp_
        refine t_iff (o_t rfl) hb3 ?_
        refine t_skip (k_bn <| k_seq ?_)
        refine t_seq ?_
        refine t_reg ?_
        refine st (l_assign (o_b) (lt rfl)) ?_
        refine r_nil (k_seq ?_)
        cases hp_
        exact t_ret (k_ret () rfl rfl rfl rfl rfl)
      · rw [if_pos hb3] at hp_
        refine t_ift (o_t rfl) hb3 ?_
        refine t_seq ?_
        refine t_reg ?_
        refine st (l_fa (o_t rfl) fl_aArr_2 fa59_2 (lt rfl)) ?_
        refine st (l_ld (o_t rfl) ty3 (lt rfl)) ?_
        refine st (l_cmp (o_t rfl) (o_i) .eql (lt rfl)) ?_
        refine st (l_assign (o_t rfl) (lt rfl)) ?_
        refine r_nil (k_seq ?_)
        cases hp_
        exact t_ret (k_br <| k_tr <| k_ret () rfl rfl rfl rfl rfl)
    · rw [if_pos hb2] at hp_
      refine t_ift (o_t rfl) hb2 ?_
      refine t_skip (k_seq ?_)
      refine t_ift (o_t rfl) hb2 ?_
      refine t_seq ?_
      refine t_reg ?_
      refine st (l_fa (o_t rfl) fl_aArr_2 fa59_2 (lt rfl)) ?_
      refine st (l_ld (o_t rfl) ty3 (lt rfl)) ?_
      refine st (l_cmp (o_t rfl) (o_i) .eql (lt rfl)) ?_
      refine st (l_assign (o_t rfl) (lt rfl)) ?_
      refine r_nil (k_seq ?_)
      cases hp_
      exact t_ret (k_br <| k_tr <| k_ret () rfl rfl rfl rfl rfl)
  · rw [if_pos hb1] at hp_
    refine t_ift (o_t rfl) hb1 ?_
    refine t_seq ?_
    refine t_reg ?_
    refine st (l_fa (o_t rfl) fl_aArr_2 fa59_2 (lt rfl)) ?_
    refine st (l_ld (o_t rfl) ty3 (lt rfl)) ?_
    refine st (l_cmp (o_t rfl) (o_i) .geq (lt rfl)) ?_
    refine st (l_move (o_t rfl) (lt rfl)) ?_
    rcases bt (decide (a.W ≥ (1 : Int))) with hb4 | hb4
    · rw [if_neg (nt hb4)] at hp_
      refine g_n ⟨10, vBool, decide (a.W ≥ (1 : Int))⟩ rfl rfl (noy_b (b := true) hb4) (lt rfl) ?_
      refine g_n ⟨10, vBool, decide (a.W ≥ (1 : Int))⟩ rfl rfl (noy_b (b := true) hb4) (lt rfl) ?_
      refine g_n ⟨10, vBool, decide (a.W ≥ (1 : Int))⟩ rfl rfl (noy_b (b := true) hb4) (lt rfl) ?_
      refine st (l_pickf (o_t rfl) hb4 (o_b) (lt rfl)) ?_
      refine st (l_assign (o_t rfl) (lt rfl)) ?_
      refine r_nil (k_seq ?_)
      cases hp_
      exact t_ret (k_br <| k_tr <| k_ret () rfl rfl rfl rfl rfl)
    · rw [if_pos hb4] at hp_
      refine g_t rfl rfl hb4 ?_
      refine st (l_fa (o_t rfl) fl_aArr_2 fa59_2 (lt rfl)) ?_
      refine g_t rfl rfl hb4 ?_
      refine st (l_ld (o_t rfl) ty3 (lt rfl)) ?_
      refine g_t rfl rfl hb4 ?_
      refine st (l_cmp (o_t rfl) (o_i) .leq (lt rfl)) ?_
      refine st (l_pickt (o_t rfl) hb4 (o_t rfl) (lt rfl)) ?_
      refine st (l_assign (o_t rfl) (lt rfl)) ?_
      refine r_nil (k_seq ?_)
      cases hp_
      exact t_ret (k_br <| k_tr <| k_ret () rfl rfl rfl rfl rfl)
-- pointsman/code.Check$1
theorem ok18 (a : aArr) (y_ : Bool) (hp_ : code_Check_1 a = some y_) : FP Tryz.prog 18 [⟨(k_aArr).v, a⟩] vBool y_ := by
  unfold code_Check_1 at hp_
  refine fc_of 6 Tryz.func18 rfl fn18 rfl (Nat.le_of_ble_eq_true rfl) fun I_ w_ F_ => ?_
  refine t_seq ?_
  refine t_reg ?_
  refine st (l_box (o_t rfl) (lt rfl)) ?_
  refine st (l_assign (o_b) (lt rfl)) ?_
  refine r_nil (k_seq ?_)
  refine t_seq ?_
  refine t_reg ?_
  refine st (l_ld (o_t rfl) ty59 (lt rfl)) ?_
  obtain ⟨t1, h2, hp_⟩ := bs hp_
  refine st (l_call (ok19 a _ h2) (.cons (o_t rfl) (.nil)) (lt rfl)) ?_
  refine st (l_not (o_t rfl) (lt rfl)) ?_
  refine st (l_assign (o_t rfl) (lt rfl)) ?_
  refine r_nil (k_seq ?_)
  cases hp_
  exact t_ret (k_ret () rfl rfl rfl rfl rfl)
-- slices.IndexFunc[[]pointsman/api.Arr,pointsman/api.Arr]
theorem ok49 (s : List aArr) (f : aArr → Option Bool) (y_ : Int) (hp_ : slices_IndexFunc_49 s f = some y_) : FP Tryz.prog 49 [⟨vSlice k_aArr, s⟩, ⟨vClo Tryz.prog (fun x : aArr => [⟨(k_aArr).v, x⟩]) vBool, f⟩] (vInt .i64) y_ := by
  unfold slices_IndexFunc_49 at hp_
  refine fc_of 19 Tryz.func49 rfl fn49 rfl (Nat.le_of_ble_eq_true rfl) fun I_ w_ F_ => ?_
  refine t_seq ?_
  refine t_reg ?_
  refine st (l_assign (o_i) (lt rfl)) ?_
  refine r_nil (k_seq ?_)
  refine t_seq ?_
  refine t_seq ?_
  refine t_reg ?_
  refine st (l_move (o_t rfl) (lt rfl)) ?_
  refine st (l_lens (o_t rfl) sl28 (lt rfl)) ?_
  refine st (l_move (o_i) (lt rfl)) ?_
  refine r_nil (k_seq ?_)
  obtain ⟨res1_, hl1_0, hx1_⟩ := bs hp_
  clear hp_
  refine t_sub (Γ' := [⟨8, vInt .i64, (0 : Int)⟩, ⟨0, vSlice k_aArr, s⟩, ⟨1, vClo Tryz.prog (fun x : aArr => [⟨(k_aArr).v, x⟩]) vBool, f⟩, ⟨7, vInt .i64, (s.length : Int)⟩]) (Sub.cons rfl (Sub.cons rfl (Sub.cons rfl (Sub.cons rfl (Sub.nil _))))) ?_
  refine t_bloop (β := Nat × Int) (σ := Unit) (fun x_ => [⟨8, vInt .i64, x_.2⟩, ⟨0, vSlice k_aArr, s⟩, ⟨1, vClo Tryz.prog (fun x : aArr => [⟨(k_aArr).v, x⟩]) vBool, f⟩, ⟨7, vInt .i64, (s.length : Int)⟩]) (fun x_ => []) (fun x_ => slices_IndexFunc_49.l1 x_.1 s f x_.2 = some res1_) (fun x_ => x_.1) (fun x_ => []) (fun x_ => []) (fun x_ => res1_ = .go x_) ?_ ?_ ((((s.length : Int) - (0 : Int)).toNat + 1), (0 : Int)) hl1_0
  · rintro ⟨k1_, v8_1⟩ hl1_
    rcases k1_ with _ | k1_
    · exact absurd (show none = some res1_ from hl1_) (by simp)
    replace hl1_ : slices_IndexFunc_49.l1 (k1_ + 1) s f v8_1 = some res1_ := hl1_
    rw [slices_IndexFunc_49.l1.eq_2] at hl1_
    show Tr Tryz.prog _ [⟨8, vInt .i64, v8_1⟩, ⟨0, vSlice k_aArr, s⟩, ⟨1, vClo Tryz.prog (fun x : aArr => [⟨(k_aArr).v, x⟩]) vBool, f⟩, ⟨7, vInt .i64, (s.length : Int)⟩] [] _ _
    refine t_seq ?_
    refine t_reg ?_
    refine st (l_cmp (o_t rfl) (o_t rfl) .lss (lt rfl)) ?_
    refine r_nil (k_seq ?_)
    refine t_seq ?_
    rcases bt (decide (v8_1 < (s.length : Int))) with hb1 | hb1
    · rw [if_neg (nt hb1)] at hl1_
      refine t_iff (o_t rfl) hb1 ?_
      exact t_exit (k_te <| k_te <| k_be <| k_brk () (Option.some.inj hl1_).symm (Sub.nil _) rfl)
    · rw [if_pos hb1] at hl1_
      refine t_ift (o_t rfl) hb1 ?_
      refine t_skip (k_seq ?_)
      refine t_seq ?_
      refine t_blk ?_
      refine t_seq ?_
      refine t_reg ?_
      refine st (l_move (o_t rfl) (lt rfl)) ?_
      refine st (l_assign (o_t rfl) (lt rfl)) ?_
      refine r_nil (k_seq ?_)
      refine t_seq ?_
      refine t_reg ?_
      refine st (l_move (o_t rfl) (lt rfl)) ?_
      refine st (l_move (o_t rfl) (lt rfl)) ?_
      refine st (l_move (o_t rfl) (lt rfl)) ?_
      obtain ⟨t2, h3, hl1_⟩ := bs hl1_
      refine st (l_ia (o_t rfl) (o_t rfl) h3 sl28 sz59 (lt rfl)) ?_
      refine st (l_ld (o_t rfl) ty59 (lt rfl)) ?_
      obtain ⟨t4, h5, hl1_⟩ := bs hl1_
      refine st (l_callc (o_t rfl) (x := t2) (.cons (o_t rfl) (.nil)) h5 (lt rfl)) ?_
      refine r_nil (k_seq ?_)
      rcases bt (t4) with hb6 | hb6
      · rw [if_neg (nt hb6)] at hl1_
        refine t_iff (o_t rfl) hb6 ?_
        refine t_skip (k_bn <| k_seq ?_)
        refine t_reg ?_
        refine st (l_bin (o_t rfl) (o_i) .add (lt rfl)) ?_
        refine st (l_move (o_t rfl) (lt rfl)) ?_
        exact r_nil (k_again (k1_, IntKind.wrap .i64 (v8_1 + (1 : Int))) hl1_ (Nat.lt_succ_self _) (Sub.cons rfl (Sub.cons rfl (Sub.cons rfl (Sub.cons rfl (Sub.nil _))))) rfl)
      · rw [if_pos hb6] at hl1_
        refine t_ift (o_t rfl) hb6 ?_
        refine t_seq ?_
        refine t_reg ?_
        refine st (l_move (o_t rfl) (lt rfl)) ?_
        refine st (l_assign (o_t rfl) (lt rfl)) ?_
        refine r_nil (k_seq ?_)
        cases hl1_
        dsimp only [Ex.elim] at hx1_
        cases hx1_
        exact t_ret (k_br <| k_tr <| k_tr <| k_br <| k_brk_r <| k_tr <| k_ret () rfl rfl rfl rfl rfl)
  · intro s1_ hs1_
    replace hs1_ : res1_ = .go s1_ := hs1_
    subst hs1_
    dsimp only [Ex.elim] at hx1_
    have hp_ := hx1_
    clear hx1_
    show Kx _ [] [] _ _
    refine k_seq ?_
    refine t_seq ?_
    refine t_reg ?_
    refine st (l_assign (o_i) (lt rfl)) ?_
    refine r_nil (k_seq ?_)
    cases hp_
    exact t_ret (k_ret () rfl rfl rfl rfl rfl)
-- slices.ContainsFunc[[]pointsman/api.Arr,pointsman/api.Arr]
theorem ok17 (s : List aArr) (f : aArr → Option Bool) (y_ : Bool) (hp_ : slices_ContainsFunc_17 s f = some y_) : FP Tryz.prog 17 [⟨vSlice k_aArr, s⟩, ⟨vClo Tryz.prog (fun x : aArr => [⟨(k_aArr).v, x⟩]) vBool, f⟩] vBool y_ := by
  unfold slices_ContainsFunc_17 at hp_
  refine fc_of 9 Tryz.func17 rfl fn17 rfl (Nat.le_of_ble_eq_true rfl) fun I_ w_ F_ => ?_
  refine t_seq ?_
  refine t_reg ?_
  refine st (l_assign (o_b) (lt rfl)) ?_
  refine r_nil (k_seq ?_)
  refine t_seq ?_
  refine t_reg ?_
  refine st (l_move (o_t rfl) (lt rfl)) ?_
  refine st (l_move (o_t rfl) (lt rfl)) ?_
  obtain ⟨t1, h2, hp_⟩ := bs hp_
  refine st (l_call (ok49 s f _ h2) (.cons (o_t rfl) (.cons (o_t rfl) (.nil))) (lt rfl)) ?_
  refine st (l_cmp (o_t rfl) (o_i) .geq (lt rfl)) ?_
  refine st (l_assign (o_t rfl) (lt rfl)) ?_
  refine r_nil (k_seq ?_)
  cases hp_
  exact t_ret (k_ret () rfl rfl rfl rfl rfl)
-- (pointsman/code.look).node$1
theorem ok51_0 (k_0 : Int) (p1 : code_look) (y_ : Bool) (hp_ : code_look_node_1 k_0 p1 = some y_) : FP Tryz.prog 51 [⟨vInt .i64, k_0⟩, ⟨vPtr k_code_look, p1⟩] vBool y_ := by
  unfold code_look_node_1 at hp_
  refine fc_of 14 Tryz.func51 rfl fn51 rfl (Nat.le_of_ble_eq_true rfl) fun I_ w_ F_ => ?_
  refine t_seq ?_
  refine t_reg ?_
  refine st (l_assign (o_b) (lt rfl)) ?_
  refine r_nil (k_seq ?_)
  refine t_seq ?_
  refine t_reg ?_
  refine st (l_move (o_t rfl) (lt rfl)) ?_
  refine st (l_cmp (o_t rfl) (o_i) .geq (lt rfl)) ?_
  refine st (l_move (o_t rfl) (lt rfl)) ?_
  rcases bt (decide (k_0 ≥ (-2 : Int))) with hb1 | hb1
  · rw [if_neg (nt hb1)] at hp_
    refine g_n ⟨6, vBool, decide (k_0 ≥ (-2 : Int))⟩ rfl rfl (noy_b (b := true) hb1) (lt rfl) ?_
    refine g_n ⟨6, vBool, decide (k_0 ≥ (-2 : Int))⟩ rfl rfl (noy_b (b := true) hb1) (lt rfl) ?_
    refine g_n ⟨6, vBool, decide (k_0 ≥ (-2 : Int))⟩ rfl rfl (noy_b (b := true) hb1) (lt rfl) ?_
    refine g_n ⟨6, vBool, decide (k_0 ≥ (-2 : Int))⟩ rfl rfl (noy_b (b := true) hb1) (lt rfl) ?_
    refine g_n ⟨6, vBool, decide (k_0 ≥ (-2 : Int))⟩ rfl rfl (noy_b (b := true) hb1) (lt rfl) ?_
    refine g_n ⟨6, vBool, decide (k_0 ≥ (-2 : Int))⟩ rfl rfl (noy_b (b := true) hb1) (lt rfl) ?_
    refine st (l_pickf (o_t rfl) hb1 (o_b) (lt rfl)) ?_
    refine st (l_assign (o_t rfl) (lt rfl)) ?_
    refine r_nil (k_seq ?_)
    cases hp_
    exact t_ret (k_ret () rfl rfl rfl rfl rfl)
  · rw [if_pos hb1] at hp_
    refine g_t rfl rfl hb1 ?_
    refine st (l_move (o_t rfl) (lt rfl)) ?_
    refine g_t rfl rfl hb1 ?_
    refine st (l_fa (o_t rfl) fl_code_look_0 fa51_0 (lt rfl)) ?_
    refine g_t rfl rfl hb1 ?_
    refine st (l_fa (o_t rfl) fl_aCode_3 fa30_3 (lt rfl)) ?_
    refine g_t rfl rfl hb1 ?_
    refine st (l_ld (o_t rfl) ty24 (lt rfl)) ?_
    refine g_t rfl rfl hb1 ?_
    refine st (l_lens (o_t rfl) sl24 (lt rfl)) ?_
    refine g_t rfl rfl hb1 ?_
    refine st (l_cmp (o_t rfl) (o_t rfl) .lss (lt rfl)) ?_
    refine st (l_pickt (o_t rfl) hb1 (o_t rfl) (lt rfl)) ?_
    refine st (l_assign (o_t rfl) (lt rfl)) ?_
    refine r_nil (k_seq ?_)
    cases hp_
    exact t_ret (k_ret () rfl rfl rfl rfl rfl)
-- (pointsman/code.look).head
theorem ok53 (l : code_look) (n : Int) (y_ : Bool) (hp_ : code_look_head l n = some y_) : FP Tryz.prog 53 [⟨(k_code_look).v, l⟩, ⟨vInt .i64, n⟩] vBool y_ := by
  unfold code_look_head at hp_
  refine fc_of 11 Tryz.func53 rfl fn53 rfl (Nat.le_of_ble_eq_true rfl) fun I_ w_ F_ => ?_
  refine t_seq ?_
  refine t_reg ?_
  refine st (l_box (o_t rfl) (lt rfl)) ?_
  refine st (l_assign (o_b) (lt rfl)) ?_
  refine r_nil (k_seq ?_)
  refine t_seq ?_
  refine t_reg ?_
  refine st (l_move (o_t rfl) (lt rfl)) ?_
  refine st (l_fa (o_t rfl) fl_code_look_0 fa51_0 (lt rfl)) ?_
  refine st (l_fa (o_t rfl) fl_aCode_1 fa30_1 (lt rfl)) ?_
  refine st (l_ld (o_t rfl) ty23 (lt rfl)) ?_
  refine st (l_lens (o_t rfl) sl23 (lt rfl)) ?_
  obtain ⟨t1, h2, hp_⟩ := bs hp_
  refine st (l_call (ok47 n (l.c.Heads.length : Int) _ h2) (.cons (o_t rfl) (.cons (o_t rfl) (.nil))) (lt rfl)) ?_
  refine st (l_assign (o_t rfl) (lt rfl)) ?_
  refine r_nil (k_seq ?_)
  cases hp_
  exact t_ret (k_ret () rfl rfl rfl rfl rfl)
-- (pointsman/code.look).node$2
theorem ok52_0 (h : Int) (p1 : code_look) (y_ : Bool) (hp_ : code_look_node_2 h p1 = some y_) : FP Tryz.prog 52 [⟨vInt .i64, h⟩, ⟨vPtr k_code_look, p1⟩] vBool y_ := by
  unfold code_look_node_2 at hp_
  refine fc_of 8 Tryz.func52 rfl fn52 rfl (Nat.le_of_ble_eq_true rfl) fun I_ w_ F_ => ?_
  refine t_seq ?_
  refine t_reg ?_
  refine st (l_assign (o_b) (lt rfl)) ?_
  refine r_nil (k_seq ?_)
  refine t_seq ?_
  refine t_reg ?_
  refine st (l_ld (o_t rfl) ty51 (lt rfl)) ?_
  refine st (l_move (o_t rfl) (lt rfl)) ?_
  obtain ⟨t1, h2, hp_⟩ := bs hp_
  refine st (l_call (ok53 p1 h _ h2) (.cons (o_t rfl) (.cons (o_t rfl) (.nil))) (lt rfl)) ?_
  refine st (l_not (o_t rfl) (lt rfl)) ?_
  refine st (l_assign (o_t rfl) (lt rfl)) ?_
  refine r_nil (k_seq ?_)
  cases hp_
  exact t_ret (k_ret () rfl rfl rfl rfl rfl)
-- pointsman/bits.wide
theorem ok78 (w : Int) (y_ : Bool) (hp_ : bits_wide w = some y_) : FP Tryz.prog 78 [⟨vInt .i64, w⟩] vBool y_ := by
  unfold bits_wide at hp_
  refine fc_of 9 Tryz.func78 rfl fn78 rfl (Nat.le_of_ble_eq_true rfl) fun I_ w_ F_ => ?_
  refine t_seq ?_
  refine t_reg ?_
  refine st (l_assign (o_b) (lt rfl)) ?_
  refine r_nil (k_seq ?_)
  refine t_seq ?_
  refine t_reg ?_
  refine st (l_move (o_t rfl) (lt rfl)) ?_
  refine st (l_cmp (o_t rfl) (o_i) .geq (lt rfl)) ?_
  refine st (l_move (o_t rfl) (lt rfl)) ?_
  rcases bt (decide (w ≥ (1 : Int))) with hb1 | hb1
  · rw [if_neg (nt hb1)] at hp_
    refine g_n ⟨5, vBool, decide (w ≥ (1 : Int))⟩ rfl rfl (noy_b (b := true) hb1) (lt rfl) ?_
    refine g_n ⟨5, vBool, decide (w ≥ (1 : Int))⟩ rfl rfl (noy_b (b := true) hb1) (lt rfl) ?_
    refine st (l_pickf (o_t rfl) hb1 (o_b) (lt rfl)) ?_
    refine st (l_assign (o_t rfl) (lt rfl)) ?_
    refine r_nil (k_seq ?_)
    cases hp_
    exact t_ret (k_ret () rfl rfl rfl rfl rfl)
  · rw [if_pos hb1] at hp_
    refine g_t rfl rfl hb1 ?_
    refine st (l_move (o_t rfl) (lt rfl)) ?_
    refine g_t rfl rfl hb1 ?_
    refine st (l_cmp (o_t rfl) (o_i) .leq (lt rfl)) ?_
    refine st (l_pickt (o_t rfl) hb1 (o_t rfl) (lt rfl)) ?_
    refine st (l_assign (o_t rfl) (lt rfl)) ?_
    refine r_nil (k_seq ?_)
    cases hp_
    exact t_ret (k_ret () rfl rfl rfl rfl rfl)
-- pointsman/bits.cut
theorem ok79 (w : Int) (hi : Int) (lo : Int) (y_ : aBits) (hp_ : bits_cut w hi lo = some y_) : FP Tryz.prog 79 [⟨vInt .i64, w⟩, ⟨vInt .u64, hi⟩, ⟨vInt .u64, lo⟩] ((k_aBits).v) y_ := by
  unfold bits_cut at hp_
  refine fc_of 25 Tryz.func79 rfl fn79 rfl (Nat.le_of_ble_eq_true rfl) fun I_ w_ F_ => ?_
  refine t_seq ?_
  refine t_reg ?_
  refine r_alloc zr72 (lt rfl) (fun b1 => ?_)
  refine r_nil (k_seq ?_)
  refine t_seq ?_
  refine t_seq ?_
  refine t_reg ?_
  refine st (l_move (o_t rfl) (lt rfl)) ?_
  refine st (l_cmp (o_t rfl) (o_i) .lss (lt rfl)) ?_
  refine r_nil (k_seq ?_)
  rcases bt (decide (w < (64 : Int))) with hb3 | hb3
  · rw [if_neg (nt hb3)] at hp_
    refine t_iff (o_t rfl) hb3 ?_
    refine t_skip (k_seq ?_)
    refine t_seq ?_
    refine t_reg ?_
    refine st (l_move (o_t rfl) (lt rfl)) ?_
    refine st (l_move (o_t rfl) (lt rfl)) ?_
    refine st (l_move (o_t rfl) (lt rfl)) ?_
    refine st (l_bin (o_t rfl) (o_i) .sub (lt rfl)) ?_
    rcases bt (decide (0 ≤ IntKind.wrap .i64 (w - (64 : Int)))) with hc4 | hc4
    · rw [if_neg (nt hc4)] at hp_; cases hp_
    rw [if_pos hc4] at hp_
    refine st (l_sh (o_i) (o_t rfl) (of_decide_eq_true hc4) .shl (lt rfl)) ?_
    refine st (l_bin (o_t rfl) (o_i) .sub (lt rfl)) ?_
    refine st (l_bin (o_t rfl) (o_t rfl) .and (lt rfl)) ?_
    refine st (l_move (o_t rfl) (lt rfl)) ?_
    refine st (l_build zr72 (.cons (o_t rfl) fl_aBits_0 ft72_0 (.cons (o_t rfl) fl_aBits_1 ft72_1 (.cons (o_t rfl) fl_aBits_2 ft72_2 (.nil)))) rfl stb72 (lt rfl)) ?_
    refine r_stm (i := 0) (o_t rfl) (o_t rfl) rfl (Fld.refl _) sz72 ?_
    refine r_nil (k_seq ?_)
    cases hp_
    exact t_ret (k_frzb (s := 6) (i := 0) rfl rfl <| k_drop <| k_retc () rfl ty72 rfl rfl rfl rfl)
  · rw [if_pos hb3] at hp_
    refine t_ift (o_t rfl) hb3 ?_
    refine t_seq ?_
    refine t_reg ?_
    refine st (l_move (o_t rfl) (lt rfl)) ?_
    refine st (l_move (o_t rfl) (lt rfl)) ?_
    refine st (l_move (o_t rfl) (lt rfl)) ?_
    rcases bt (decide (0 ≤ w)) with hc5 | hc5
    · rw [if_neg (nt hc5)] at hp_; cases hp_
    rw [if_pos hc5] at hp_
    refine st (l_sh (o_i) (o_t rfl) (of_decide_eq_true hc5) .shl (lt rfl)) ?_
    refine st (l_bin (o_t rfl) (o_i) .sub (lt rfl)) ?_
    refine st (l_bin (o_t rfl) (o_t rfl) .and (lt rfl)) ?_
    refine st (l_build zr72 (.cons (o_t rfl) fl_aBits_0 ft72_0 (.cons (o_t rfl) fl_aBits_2 ft72_2 (.nil))) rfl stb72 (lt rfl)) ?_
    refine r_stm (i := 0) (o_t rfl) (o_t rfl) rfl (Fld.refl _) sz72 ?_
    refine r_nil (k_seq ?_)
    cases hp_
    exact t_ret (k_frzb (s := 6) (i := 0) rfl rfl <| k_tr <| k_drop <| k_retc () rfl ty72 rfl rfl rfl rfl)
-- pointsman/bits.Check
theorem ok57 (b : aBits) (y_ : Bool) (hp_ : bits_Check b = some y_) : FP Tryz.prog 57 [⟨(k_aBits).v, b⟩] vBool y_ := by
  unfold bits_Check at hp_
  refine fc_of 17 Tryz.func57 rfl fn57 rfl (Nat.le_of_ble_eq_true rfl) fun I_ w_ F_ => ?_
  refine t_seq ?_
  refine t_reg ?_
  refine st (l_box (o_t rfl) (lt rfl)) ?_
  refine st (l_assign (o_b) (lt rfl)) ?_
  refine r_nil (k_seq ?_)
  refine t_seq ?_
  obtain ⟨t1, h2, hp_⟩ := bs hp_
  rcases bt (t1) with hb3 | hb3
  · rw [if_neg (nt hb3)] at hp_
    refine t_draw [(0, fun gs_ => some ⟨3, vPtr (kInt .i64), b.W⟩), (0, fun gs_ => some ⟨4, vInt .i64, b.W⟩), (0, fun gs_ => some ⟨5, vBool, t1⟩), (0, fun gs_ => some ⟨6, vBool, t1⟩), (0, fun _ => some ⟨7, vUnd, ()⟩), (0, fun _ => some ⟨8, vUnd, ()⟩), (0, fun _ => some ⟨9, vUnd, ()⟩), (0, fun _ => some ⟨10, vUnd, ()⟩), (0, fun _ => some ⟨11, vUnd, ()⟩), (0, fun _ => some ⟨12, vUnd, ()⟩), (0, fun _ => some ⟨13, vUnd, ()⟩), (0, fun _ => some ⟨14, vUnd, ()⟩), (0, fun _ => some ⟨15, vUnd, ()⟩), (0, fun gs_ => some ⟨16, vBool, false⟩), (0, fun gs_ => some ⟨2, vBool, false⟩)] mixed rfl rfl (fun _ => []) [] rfl (.x (f := fun gs_ => ⟨3, vPtr (kInt .i64), b.W⟩) 0 (fun gs_ => [⟨1, vPtr k_aBits, b⟩]) rfl (fun gs_ => l_fa (o_t rfl) fl_aBits_0 fa72_0 (lt rfl)) (fun gs_ => .b rfl rfl (.nil)) .n (fun _ => rfl) rfl (fun _ _ _ => rfl) (.x (f := fun gs_ => ⟨4, vInt .i64, b.W⟩) 0 (fun gs_ => [⟨3, vPtr (kInt .i64), b.W⟩]) rfl (fun gs_ => l_ld (o_t rfl) ty3 (lt rfl)) (fun gs_ => .d 0 rfl rfl (.nil)) .n (fun _ => rfl) rfl (fun _ _ _ => rfl) (.x (f := fun gs_ => ⟨5, vBool, t1⟩) 0 (fun gs_ => [⟨4, vInt .i64, b.W⟩]) rfl (fun gs_ => l_call (ok78 b.W _ h2) (.cons (o_t rfl) (.nil)) (lt rfl)) (fun gs_ => .d 1 rfl rfl (.nil)) .n (fun _ => rfl) rfl (fun _ _ _ => rfl) (.x (f := fun gs_ => ⟨6, vBool, t1⟩) 0 (fun gs_ => [⟨5, vBool, t1⟩]) rfl (fun gs_ => l_move (o_t rfl) (lt rfl)) (fun gs_ => .d 2 rfl rfl (.nil)) .n (fun _ => rfl) rfl (fun _ _ _ => rfl) (.n (fun gs_ => ⟨6, vBool, t1⟩) rfl (fun _ => rfl) (fun gs_ => .d 3 rfl rfl (.nil)) (fun _ => noy_b (b := true) hb3) (lt rfl) (.n (fun gs_ => ⟨6, vBool, t1⟩) rfl (fun _ => rfl) (fun gs_ => .d 3 rfl rfl (.nil)) (fun _ => noy_b (b := true) hb3) (lt rfl) (.n (fun gs_ => ⟨6, vBool, t1⟩) rfl (fun _ => rfl) (fun gs_ => .d 3 rfl rfl (.nil)) (fun _ => noy_b (b := true) hb3) (lt rfl) (.n (fun gs_ => ⟨6, vBool, t1⟩) rfl (fun _ => rfl) (fun gs_ => .d 3 rfl rfl (.nil)) (fun _ => noy_b (b := true) hb3) (lt rfl) (.n (fun gs_ => ⟨6, vBool, t1⟩) rfl (fun _ => rfl) (fun gs_ => .d 3 rfl rfl (.nil)) (fun _ => noy_b (b := true) hb3) (lt rfl) (.n (fun gs_ => ⟨6, vBool, t1⟩) rfl (fun _ => rfl) (fun gs_ => .d 3 rfl rfl (.nil)) (fun _ => noy_b (b := true) hb3) (lt rfl) (.n (fun gs_ => ⟨6, vBool, t1⟩) rfl (fun _ => rfl) (fun gs_ => .d 3 rfl rfl (.nil)) (fun _ => noy_b (b := true) hb3) (lt rfl) (.n (fun gs_ => ⟨6, vBool, t1⟩) rfl (fun _ => rfl) (fun gs_ => .d 3 rfl rfl (.nil)) (fun _ => noy_b (b := true) hb3) (lt rfl) (.n (fun gs_ => ⟨6, vBool, t1⟩) rfl (fun _ => rfl) (fun gs_ => .d 3 rfl rfl (.nil)) (fun _ => noy_b (b := true) hb3) (lt rfl) (.x (f := fun gs_ => ⟨16, vBool, false⟩) 0 (fun gs_ => [⟨6, vBool, t1⟩]) rfl (fun gs_ => l_pickf (o_t rfl) hb3 (o_b) (lt rfl)) (fun gs_ => .d 3 rfl rfl (.nil)) .n (fun _ => rfl) rfl (fun _ _ _ => rfl) (.x (f := fun gs_ => ⟨2, vBool, false⟩) 0 (fun gs_ => [⟨16, vBool, false⟩]) rfl (fun gs_ => l_assign (o_t rfl) (lt rfl)) (fun gs_ => .d 13 rfl rfl (.nil)) .n (fun _ => rfl) rfl (fun _ _ _ => rfl) (.nil)))))))))))))))) (fun gs_ hgs_ => ?_)
    refine k_seq ?_
    cases hp_
    exact t_ret (k_ret () rfl rfl rfl rfl rfl)
  · rw [if_pos hb3] at hp_
    obtain ⟨t4, h5, hp_⟩ := bs hp_
    refine t_draw [(0, fun gs_ => some ⟨3, vPtr (kInt .i64), b.W⟩), (0, fun gs_ => some ⟨4, vInt .i64, b.W⟩), (0, fun gs_ => some ⟨5, vBool, t1⟩), (0, fun gs_ => some ⟨6, vBool, t1⟩), (0, fun gs_ => some ⟨7, (k_aBits).v, b⟩), (0, fun gs_ => some ⟨8, vPtr (kInt .i64), b.W⟩), (0, fun gs_ => some ⟨9, vInt .i64, b.W⟩), (0, fun gs_ => some ⟨10, vPtr (kInt .u64), b.Hi⟩), (0, fun gs_ => some ⟨11, vInt .u64, b.Hi⟩), (0, fun gs_ => some ⟨12, vPtr (kInt .u64), b.Lo⟩), (0, fun gs_ => some ⟨13, vInt .u64, b.Lo⟩), (0, fun gs_ => some ⟨14, (k_aBits).v, t4⟩), (0, fun gs_ => some ⟨15, vBool, eq_aBits b t4⟩), (0, fun gs_ => some ⟨16, vBool, eq_aBits b t4⟩), (0, fun gs_ => some ⟨2, vBool, eq_aBits b t4⟩)] mixed rfl rfl (fun _ => []) [] rfl (.x (f := fun gs_ => ⟨3, vPtr (kInt .i64), b.W⟩) 0 (fun gs_ => [⟨1, vPtr k_aBits, b⟩]) rfl (fun gs_ => l_fa (o_t rfl) fl_aBits_0 fa72_0 (lt rfl)) (fun gs_ => .b rfl rfl (.nil)) .n (fun _ => rfl) rfl (fun _ _ _ => rfl) (.x (f := fun gs_ => ⟨4, vInt .i64, b.W⟩) 0 (fun gs_ => [⟨3, vPtr (kInt .i64), b.W⟩]) rfl (fun gs_ => l_ld (o_t rfl) ty3 (lt rfl)) (fun gs_ => .d 0 rfl rfl (.nil)) .n (fun _ => rfl) rfl (fun _ _ _ => rfl) (.x (f := fun gs_ => ⟨5, vBool, t1⟩) 0 (fun gs_ => [⟨4, vInt .i64, b.W⟩]) rfl (fun gs_ => l_call (ok78 b.W _ h2) (.cons (o_t rfl) (.nil)) (lt rfl)) (fun gs_ => .d 1 rfl rfl (.nil)) .n (fun _ => rfl) rfl (fun _ _ _ => rfl) (.x (f := fun gs_ => ⟨6, vBool, t1⟩) 0 (fun gs_ => [⟨5, vBool, t1⟩]) rfl (fun gs_ => l_move (o_t rfl) (lt rfl)) (fun gs_ => .d 2 rfl rfl (.nil)) .n (fun _ => rfl) rfl (fun _ _ _ => rfl) (.x (f := fun gs_ => ⟨7, (k_aBits).v, b⟩) 0 (fun gs_ => [⟨1, vPtr k_aBits, b⟩]) rfl (fun gs_ => l_ld (o_t rfl) ty72 (lt rfl)) (fun gs_ => .b rfl rfl (.nil)) (.s rfl (fun gs_ => .d 3 rfl rfl (.nil)) hb3) (fun _ => rfl) rfl (fun _ _ _ => rfl) (.x (f := fun gs_ => ⟨8, vPtr (kInt .i64), b.W⟩) 0 (fun gs_ => [⟨1, vPtr k_aBits, b⟩]) rfl (fun gs_ => l_fa (o_t rfl) fl_aBits_0 fa72_0 (lt rfl)) (fun gs_ => .b rfl rfl (.nil)) (.s rfl (fun gs_ => .d 3 rfl rfl (.nil)) hb3) (fun _ => rfl) rfl (fun _ _ _ => rfl) (.x (f := fun gs_ => ⟨9, vInt .i64, b.W⟩) 0 (fun gs_ => [⟨8, vPtr (kInt .i64), b.W⟩]) rfl (fun gs_ => l_ld (o_t rfl) ty3 (lt rfl)) (fun gs_ => .d 5 rfl rfl (.nil)) (.s rfl (fun gs_ => .d 3 rfl rfl (.nil)) hb3) (fun _ => rfl) rfl (fun _ _ _ => rfl) (.x (f := fun gs_ => ⟨10, vPtr (kInt .u64), b.Hi⟩) 0 (fun gs_ => [⟨1, vPtr k_aBits, b⟩]) rfl (fun gs_ => l_fa (o_t rfl) fl_aBits_1 fa72_1 (lt rfl)) (fun gs_ => .b rfl rfl (.nil)) (.s rfl (fun gs_ => .d 3 rfl rfl (.nil)) hb3) (fun _ => rfl) rfl (fun _ _ _ => rfl) (.x (f := fun gs_ => ⟨11, vInt .u64, b.Hi⟩) 0 (fun gs_ => [⟨10, vPtr (kInt .u64), b.Hi⟩]) rfl (fun gs_ => l_ld (o_t rfl) ty70 (lt rfl)) (fun gs_ => .d 7 rfl rfl (.nil)) (.s rfl (fun gs_ => .d 3 rfl rfl (.nil)) hb3) (fun _ => rfl) rfl (fun _ _ _ => rfl) (.x (f := fun gs_ => ⟨12, vPtr (kInt .u64), b.Lo⟩) 0 (fun gs_ => [⟨1, vPtr k_aBits, b⟩]) rfl (fun gs_ => l_fa (o_t rfl) fl_aBits_2 fa72_2 (lt rfl)) (fun gs_ => .b rfl rfl (.nil)) (.s rfl (fun gs_ => .d 3 rfl rfl (.nil)) hb3) (fun _ => rfl) rfl (fun _ _ _ => rfl) (.x (f := fun gs_ => ⟨13, vInt .u64, b.Lo⟩) 0 (fun gs_ => [⟨12, vPtr (kInt .u64), b.Lo⟩]) rfl (fun gs_ => l_ld (o_t rfl) ty70 (lt rfl)) (fun gs_ => .d 9 rfl rfl (.nil)) (.s rfl (fun gs_ => .d 3 rfl rfl (.nil)) hb3) (fun _ => rfl) rfl (fun _ _ _ => rfl) (.x (f := fun gs_ => ⟨14, (k_aBits).v, t4⟩) 0 (fun gs_ => [⟨9, vInt .i64, b.W⟩, ⟨11, vInt .u64, b.Hi⟩, ⟨13, vInt .u64, b.Lo⟩]) rfl (fun gs_ => l_call (ok79 b.W b.Hi b.Lo _ h5) (.cons (o_t rfl) (.cons (o_t rfl) (.cons (o_t rfl) (.nil)))) (lt rfl)) (fun gs_ => .d 6 rfl rfl (.d 8 rfl rfl (.d 10 rfl rfl (.nil)))) (.s rfl (fun gs_ => .d 3 rfl rfl (.nil)) hb3) (fun _ => rfl) rfl (fun _ _ _ => rfl) (.x (f := fun gs_ => ⟨15, vBool, eq_aBits b t4⟩) 0 (fun gs_ => [⟨7, (k_aBits).v, b⟩, ⟨14, (k_aBits).v, t4⟩]) rfl (fun gs_ => l_seq eqok72 rfl rfl (by kernel_rfl) (o_t rfl) (o_t rfl) (lt rfl)) (fun gs_ => .d 4 rfl rfl (.d 11 rfl rfl (.nil))) (.s rfl (fun gs_ => .d 3 rfl rfl (.nil)) hb3) (fun _ => rfl) rfl (fun _ _ _ => rfl) (.x (f := fun gs_ => ⟨16, vBool, eq_aBits b t4⟩) 0 (fun gs_ => [⟨6, vBool, t1⟩, ⟨15, vBool, eq_aBits b t4⟩]) rfl (fun gs_ => l_pickt (o_t rfl) hb3 (o_t rfl) (lt rfl)) (fun gs_ => .d 3 rfl rfl (.d 12 rfl rfl (.nil))) .n (fun _ => rfl) rfl (fun _ _ _ => rfl) (.x (f := fun gs_ => ⟨2, vBool, eq_aBits b t4⟩) 0 (fun gs_ => [⟨16, vBool, eq_aBits b t4⟩]) rfl (fun gs_ => l_assign (o_t rfl) (lt rfl)) (fun gs_ => .d 13 rfl rfl (.nil)) .n (fun _ => rfl) rfl (fun _ _ _ => rfl) (.nil)))))))))))))))) (fun gs_ hgs_ => ?_)
    refine k_seq ?_
    cases hp_
    exact t_ret (k_ret () rfl rfl rfl rfl rfl)
-- pointsman/code.rows$1
theorem ok81 (l : code_look) (x : aIns) (p2 : code_place) (y_ : Bool) (hp_ : code_rows_1 l x p2 = some y_) : FP Tryz.prog 81 [⟨(k_code_look).v, l⟩, ⟨(k_aIns).v, x⟩, ⟨(k_code_place).v, p2⟩] vBool y_ := by
  unfold code_rows_1 at hp_
  refine fc_of 19 Tryz.func81 rfl fn81 rfl (Nat.le_of_ble_eq_true rfl) fun I_ w_ F_ => ?_
  refine t_seq ?_
  refine t_reg ?_
  refine st (l_box (o_t rfl) (lt rfl)) ?_
  refine st (l_box (o_t rfl) (lt rfl)) ?_
  refine st (l_box (o_t rfl) (lt rfl)) ?_
  refine st (l_assign (o_b) (lt rfl)) ?_
  refine r_nil (k_seq ?_)
  refine t_seq ?_
  refine t_reg ?_
  refine st (l_fa (o_t rfl) fl_aIns_7 fa75_7 (lt rfl)) ?_
  refine st (l_ld (o_t rfl) ty72 (lt rfl)) ?_
  obtain ⟨t1, h2, hp_⟩ := bs hp_
  refine st (l_call (ok57 x.Lit _ h2) (.cons (o_t rfl) (.nil)) (lt rfl)) ?_
  refine st (l_move (o_t rfl) (lt rfl)) ?_
  rcases bt (t1) with hb3 | hb3
  · rw [if_neg (nt hb3)] at hp_
    refine g_n ⟨10, vBool, t1⟩ rfl rfl (noy_b (b := true) hb3) (lt rfl) ?_
    refine g_n ⟨10, vBool, t1⟩ rfl rfl (noy_b (b := true) hb3) (lt rfl) ?_
    refine g_n ⟨10, vBool, t1⟩ rfl rfl (noy_b (b := true) hb3) (lt rfl) ?_
    refine g_n ⟨10, vBool, t1⟩ rfl rfl (noy_b (b := true) hb3) (lt rfl) ?_
    refine g_n ⟨10, vBool, t1⟩ rfl rfl (noy_b (b := true) hb3) (lt rfl) ?_
    refine g_n ⟨10, vBool, t1⟩ rfl rfl (noy_b (b := true) hb3) (lt rfl) ?_
    refine g_n ⟨10, vBool, t1⟩ rfl rfl (noy_b (b := true) hb3) (lt rfl) ?_
    refine st (l_pickf (o_t rfl) hb3 (o_b) (lt rfl)) ?_
    refine st (l_assign (o_t rfl) (lt rfl)) ?_
    refine r_nil (k_seq ?_)
    cases hp_
    exact t_ret (k_ret () rfl rfl rfl rfl rfl)
  · rw [if_pos hb3] at hp_
    refine g_t rfl rfl hb3 ?_
    refine st (l_ld (o_t rfl) ty51 (lt rfl)) ?_
    refine g_t rfl rfl hb3 ?_
    refine st (l_fa (o_t rfl) fl_aIns_1 fa75_1 (lt rfl)) ?_
    refine g_t rfl rfl hb3 ?_
    refine st (l_ld (o_t rfl) ty3 (lt rfl)) ?_
    refine g_t rfl rfl hb3 ?_
    refine st (l_fa (o_t rfl) fl_aIns_7 fa75_7 (lt rfl)) ?_
    refine g_t rfl rfl hb3 ?_
    refine st (l_fa (o_t rfl) fl_aBits_0 fa72_0 (lt rfl)) ?_
    refine g_t rfl rfl hb3 ?_
    refine st (l_ld (o_t rfl) ty3 (lt rfl)) ?_
    refine g_t rfl rfl hb3 ?_
    obtain ⟨t4, h5, hp_⟩ := bs hp_
    refine st (l_call (ok45 l x.To x.Lit.W _ h5) (.cons (o_t rfl) (.cons (o_t rfl) (.cons (o_t rfl) (.nil)))) (lt rfl)) ?_
    refine st (l_pickt (o_t rfl) hb3 (o_t rfl) (lt rfl)) ?_
    refine st (l_assign (o_t rfl) (lt rfl)) ?_
    refine r_nil (k_seq ?_)
    cases hp_
    exact t_ret (k_ret () rfl rfl rfl rfl rfl)
-- pointsman/code.rows$2
theorem ok82 (l : code_look) (x : aIns) (p2 : code_place) (y_ : Bool) (hp_ : code_rows_2 l x p2 = some y_) : FP Tryz.prog 82 [⟨(k_code_look).v, l⟩, ⟨(k_aIns).v, x⟩, ⟨(k_code_place).v, p2⟩] vBool y_ := by
  unfold code_rows_2 at hp_
  refine fc_of 24 Tryz.func82 rfl fn82 rfl (Nat.le_of_ble_eq_true rfl) fun I_ w_ F_ => ?_
  refine t_seq ?_
  refine t_reg ?_
  refine st (l_box (o_t rfl) (lt rfl)) ?_
  refine st (l_box (o_t rfl) (lt rfl)) ?_
  refine st (l_box (o_t rfl) (lt rfl)) ?_
  refine st (l_assign (o_b) (lt rfl)) ?_
  refine r_nil (k_seq ?_)
  refine t_seq ?_
  obtain ⟨t1, h2, hp_⟩ := bs hp_
  rcases bt (t1) with hb3 | hb3
  · rw [if_neg (nt hb3)] at hp_
    refine t_draw [(0, fun gs_ => some ⟨7, (k_code_look).v, l⟩), (0, fun gs_ => some ⟨8, vPtr (kInt .i64), x.A⟩), (0, fun gs_ => some ⟨9, vInt .i64, x.A⟩), (0, fun gs_ => some ⟨10, vBool, t1⟩), (0, fun gs_ => some ⟨11, vBool, t1⟩), (0, fun _ => some ⟨12, vUnd, ()⟩), (0, fun _ => some ⟨13, vUnd, ()⟩), (0, fun _ => some ⟨14, vUnd, ()⟩), (0, fun _ => some ⟨15, vUnd, ()⟩), (0, fun _ => some ⟨16, vUnd, ()⟩), (0, fun _ => some ⟨17, vUnd, ()⟩), (0, fun _ => some ⟨18, vUnd, ()⟩), (0, fun _ => some ⟨19, vUnd, ()⟩), (0, fun _ => some ⟨20, vUnd, ()⟩), (0, fun _ => some ⟨21, vUnd, ()⟩), (0, fun _ => some ⟨22, vUnd, ()⟩), (0, fun gs_ => some ⟨23, vBool, false⟩), (0, fun gs_ => some ⟨6, vBool, false⟩)] mixed rfl rfl (fun _ => []) [] rfl (.x (f := fun gs_ => ⟨7, (k_code_look).v, l⟩) 0 (fun gs_ => [⟨3, vPtr k_code_look, l⟩]) rfl (fun gs_ => l_ld (o_t rfl) ty51 (lt rfl)) (fun gs_ => .b rfl rfl (.nil)) .n (fun _ => rfl) rfl (fun _ _ _ => rfl) (.x (f := fun gs_ => ⟨8, vPtr (kInt .i64), x.A⟩) 0 (fun gs_ => [⟨4, vPtr k_aIns, x⟩]) rfl (fun gs_ => l_fa (o_t rfl) fl_aIns_2 fa75_2 (lt rfl)) (fun gs_ => .b rfl rfl (.nil)) .n (fun _ => rfl) rfl (fun _ _ _ => rfl) (.x (f := fun gs_ => ⟨9, vInt .i64, x.A⟩) 0 (fun gs_ => [⟨8, vPtr (kInt .i64), x.A⟩]) rfl (fun gs_ => l_ld (o_t rfl) ty3 (lt rfl)) (fun gs_ => .d 1 rfl rfl (.nil)) .n (fun _ => rfl) rfl (fun _ _ _ => rfl) (.x (f := fun gs_ => ⟨10, vBool, t1⟩) 0 (fun gs_ => [⟨7, (k_code_look).v, l⟩, ⟨9, vInt .i64, x.A⟩]) rfl (fun gs_ => l_call (ok54 l x.A _ h2) (.cons (o_t rfl) (.cons (o_t rfl) (.nil))) (lt rfl)) (fun gs_ => .d 0 rfl rfl (.d 2 rfl rfl (.nil))) .n (fun _ => rfl) rfl (fun _ _ _ => rfl) (.x (f := fun gs_ => ⟨11, vBool, t1⟩) 0 (fun gs_ => [⟨10, vBool, t1⟩]) rfl (fun gs_ => l_move (o_t rfl) (lt rfl)) (fun gs_ => .d 3 rfl rfl (.nil)) .n (fun _ => rfl) rfl (fun _ _ _ => rfl) (.n (fun gs_ => ⟨11, vBool, t1⟩) rfl (fun _ => rfl) (fun gs_ => .d 4 rfl rfl (.nil)) (fun _ => noy_b (b := true) hb3) (lt rfl) (.n (fun gs_ => ⟨11, vBool, t1⟩) rfl (fun _ => rfl) (fun gs_ => .d 4 rfl rfl (.nil)) (fun _ => noy_b (b := true) hb3) (lt rfl) (.n (fun gs_ => ⟨11, vBool, t1⟩) rfl (fun _ => rfl) (fun gs_ => .d 4 rfl rfl (.nil)) (fun _ => noy_b (b := true) hb3) (lt rfl) (.n (fun gs_ => ⟨11, vBool, t1⟩) rfl (fun _ => rfl) (fun gs_ => .d 4 rfl rfl (.nil)) (fun _ => noy_b (b := true) hb3) (lt rfl) (.n (fun gs_ => ⟨11, vBool, t1⟩) rfl (fun _ => rfl) (fun gs_ => .d 4 rfl rfl (.nil)) (fun _ => noy_b (b := true) hb3) (lt rfl) (.n (fun gs_ => ⟨11, vBool, t1⟩) rfl (fun _ => rfl) (fun gs_ => .d 4 rfl rfl (.nil)) (fun _ => noy_b (b := true) hb3) (lt rfl) (.n (fun gs_ => ⟨11, vBool, t1⟩) rfl (fun _ => rfl) (fun gs_ => .d 4 rfl rfl (.nil)) (fun _ => noy_b (b := true) hb3) (lt rfl) (.n (fun gs_ => ⟨11, vBool, t1⟩) rfl (fun _ => rfl) (fun gs_ => .d 4 rfl rfl (.nil)) (fun _ => noy_b (b := true) hb3) (lt rfl) (.n (fun gs_ => ⟨11, vBool, t1⟩) rfl (fun _ => rfl) (fun gs_ => .d 4 rfl rfl (.nil)) (fun _ => noy_b (b := true) hb3) (lt rfl) (.n (fun gs_ => ⟨11, vBool, t1⟩) rfl (fun _ => rfl) (fun gs_ => .d 4 rfl rfl (.nil)) (fun _ => noy_b (b := true) hb3) (lt rfl) (.n (fun gs_ => ⟨11, vBool, t1⟩) rfl (fun _ => rfl) (fun gs_ => .d 4 rfl rfl (.nil)) (fun _ => noy_b (b := true) hb3) (lt rfl) (.x (f := fun gs_ => ⟨23, vBool, false⟩) 0 (fun gs_ => [⟨11, vBool, t1⟩]) rfl (fun gs_ => l_pickf (o_t rfl) hb3 (o_b) (lt rfl)) (fun gs_ => .d 4 rfl rfl (.nil)) .n (fun _ => rfl) rfl (fun _ _ _ => rfl) (.x (f := fun gs_ => ⟨6, vBool, false⟩) 0 (fun gs_ => [⟨23, vBool, false⟩]) rfl (fun gs_ => l_assign (o_t rfl) (lt rfl)) (fun gs_ => .d 16 rfl rfl (.nil)) .n (fun _ => rfl) rfl (fun _ _ _ => rfl) (.nil))))))))))))))))))) (fun gs_ hgs_ => ?_)
    refine k_seq ?_
    cases hp_
    exact t_ret (k_ret () rfl rfl rfl rfl rfl)
  · rw [if_pos hb3] at hp_
    obtain ⟨t4, h5, hp_⟩ := bs hp_
    obtain ⟨t6, h7, hp_⟩ := bs hp_
    refine t_draw [(0, fun gs_ => some ⟨7, (k_code_look).v, l⟩), (0, fun gs_ => some ⟨8, vPtr (kInt .i64), x.A⟩), (0, fun gs_ => some ⟨9, vInt .i64, x.A⟩), (0, fun gs_ => some ⟨10, vBool, t1⟩), (0, fun gs_ => some ⟨11, vBool, t1⟩), (0, fun gs_ => some ⟨12, (k_code_look).v, l⟩), (0, fun gs_ => some ⟨13, vPtr (kInt .i64), x.To⟩), (0, fun gs_ => some ⟨14, vInt .i64, x.To⟩), (0, fun gs_ => some ⟨15, vPtr k_aCode, l.c⟩), (0, fun gs_ => some ⟨16, vPtr (kSlice (kInt .i64)), l.c.Slots⟩), (0, fun gs_ => some ⟨17, vSlice (kInt .i64), l.c.Slots⟩), (0, fun gs_ => some ⟨18, vPtr (kInt .i64), x.A⟩), (0, fun gs_ => some ⟨19, vInt .i64, x.A⟩), (0, fun gs_ => some ⟨20, vPtr (kInt .i64), t4⟩), (0, fun gs_ => some ⟨21, vInt .i64, t4⟩), (0, fun gs_ => some ⟨22, vBool, t6⟩), (0, fun gs_ => some ⟨23, vBool, t6⟩), (0, fun gs_ => some ⟨6, vBool, t6⟩)] mixed rfl rfl (fun _ => []) [] rfl (.x (f := fun gs_ => ⟨7, (k_code_look).v, l⟩) 0 (fun gs_ => [⟨3, vPtr k_code_look, l⟩]) rfl (fun gs_ => l_ld (o_t rfl) ty51 (lt rfl)) (fun gs_ => .b rfl rfl (.nil)) .n (fun _ => rfl) rfl (fun _ _ _ => rfl) (.x (f := fun gs_ => ⟨8, vPtr (kInt .i64), x.A⟩) 0 (fun gs_ => [⟨4, vPtr k_aIns, x⟩]) rfl (fun gs_ => l_fa (o_t rfl) fl_aIns_2 fa75_2 (lt rfl)) (fun gs_ => .b rfl rfl (.nil)) .n (fun _ => rfl) rfl (fun _ _ _ => rfl) (.x (f := fun gs_ => ⟨9, vInt .i64, x.A⟩) 0 (fun gs_ => [⟨8, vPtr (kInt .i64), x.A⟩]) rfl (fun gs_ => l_ld (o_t rfl) ty3 (lt rfl)) (fun gs_ => .d 1 rfl rfl (.nil)) .n (fun _ => rfl) rfl (fun _ _ _ => rfl) (.x (f := fun gs_ => ⟨10, vBool, t1⟩) 0 (fun gs_ => [⟨7, (k_code_look).v, l⟩, ⟨9, vInt .i64, x.A⟩]) rfl (fun gs_ => l_call (ok54 l x.A _ h2) (.cons (o_t rfl) (.cons (o_t rfl) (.nil))) (lt rfl)) (fun gs_ => .d 0 rfl rfl (.d 2 rfl rfl (.nil))) .n (fun _ => rfl) rfl (fun _ _ _ => rfl) (.x (f := fun gs_ => ⟨11, vBool, t1⟩) 0 (fun gs_ => [⟨10, vBool, t1⟩]) rfl (fun gs_ => l_move (o_t rfl) (lt rfl)) (fun gs_ => .d 3 rfl rfl (.nil)) .n (fun _ => rfl) rfl (fun _ _ _ => rfl) (.x (f := fun gs_ => ⟨12, (k_code_look).v, l⟩) 0 (fun gs_ => [⟨3, vPtr k_code_look, l⟩]) rfl (fun gs_ => l_ld (o_t rfl) ty51 (lt rfl)) (fun gs_ => .b rfl rfl (.nil)) (.s rfl (fun gs_ => .d 4 rfl rfl (.nil)) hb3) (fun _ => rfl) rfl (fun _ _ _ => rfl) (.x (f := fun gs_ => ⟨13, vPtr (kInt .i64), x.To⟩) 0 (fun gs_ => [⟨4, vPtr k_aIns, x⟩]) rfl (fun gs_ => l_fa (o_t rfl) fl_aIns_1 fa75_1 (lt rfl)) (fun gs_ => .b rfl rfl (.nil)) (.s rfl (fun gs_ => .d 4 rfl rfl (.nil)) hb3) (fun _ => rfl) rfl (fun _ _ _ => rfl) (.x (f := fun gs_ => ⟨14, vInt .i64, x.To⟩) 0 (fun gs_ => [⟨13, vPtr (kInt .i64), x.To⟩]) rfl (fun gs_ => l_ld (o_t rfl) ty3 (lt rfl)) (fun gs_ => .d 6 rfl rfl (.nil)) (.s rfl (fun gs_ => .d 4 rfl rfl (.nil)) hb3) (fun _ => rfl) rfl (fun _ _ _ => rfl) (.x (f := fun gs_ => ⟨15, vPtr k_aCode, l.c⟩) 0 (fun gs_ => [⟨3, vPtr k_code_look, l⟩]) rfl (fun gs_ => l_fa (o_t rfl) fl_code_look_0 fa51_0 (lt rfl)) (fun gs_ => .b rfl rfl (.nil)) (.s rfl (fun gs_ => .d 4 rfl rfl (.nil)) hb3) (fun _ => rfl) rfl (fun _ _ _ => rfl) (.x (f := fun gs_ => ⟨16, vPtr (kSlice (kInt .i64)), l.c.Slots⟩) 0 (fun gs_ => [⟨15, vPtr k_aCode, l.c⟩]) rfl (fun gs_ => l_fa (o_t rfl) fl_aCode_0 fa30_0 (lt rfl)) (fun gs_ => .d 8 rfl rfl (.nil)) (.s rfl (fun gs_ => .d 4 rfl rfl (.nil)) hb3) (fun _ => rfl) rfl (fun _ _ _ => rfl) (.x (f := fun gs_ => ⟨17, vSlice (kInt .i64), l.c.Slots⟩) 0 (fun gs_ => [⟨16, vPtr (kSlice (kInt .i64)), l.c.Slots⟩]) rfl (fun gs_ => l_ld (o_t rfl) ty22 (lt rfl)) (fun gs_ => .d 9 rfl rfl (.nil)) (.s rfl (fun gs_ => .d 4 rfl rfl (.nil)) hb3) (fun _ => rfl) rfl (fun _ _ _ => rfl) (.x (f := fun gs_ => ⟨18, vPtr (kInt .i64), x.A⟩) 0 (fun gs_ => [⟨4, vPtr k_aIns, x⟩]) rfl (fun gs_ => l_fa (o_t rfl) fl_aIns_2 fa75_2 (lt rfl)) (fun gs_ => .b rfl rfl (.nil)) (.s rfl (fun gs_ => .d 4 rfl rfl (.nil)) hb3) (fun _ => rfl) rfl (fun _ _ _ => rfl) (.x (f := fun gs_ => ⟨19, vInt .i64, x.A⟩) 0 (fun gs_ => [⟨18, vPtr (kInt .i64), x.A⟩]) rfl (fun gs_ => l_ld (o_t rfl) ty3 (lt rfl)) (fun gs_ => .d 11 rfl rfl (.nil)) (.s rfl (fun gs_ => .d 4 rfl rfl (.nil)) hb3) (fun _ => rfl) rfl (fun _ _ _ => rfl) (.x (f := fun gs_ => ⟨20, vPtr (kInt .i64), t4⟩) 0 (fun gs_ => [⟨17, vSlice (kInt .i64), l.c.Slots⟩, ⟨19, vInt .i64, x.A⟩]) rfl (fun gs_ => l_ia (o_t rfl) (o_t rfl) h5 sl22 sz3 (lt rfl)) (fun gs_ => .d 10 rfl rfl (.d 12 rfl rfl (.nil))) (.s rfl (fun gs_ => .d 4 rfl rfl (.nil)) hb3) (fun _ => rfl) rfl (fun _ _ _ => rfl) (.x (f := fun gs_ => ⟨21, vInt .i64, t4⟩) 0 (fun gs_ => [⟨20, vPtr (kInt .i64), t4⟩]) rfl (fun gs_ => l_ld (o_t rfl) ty3 (lt rfl)) (fun gs_ => .d 13 rfl rfl (.nil)) (.s rfl (fun gs_ => .d 4 rfl rfl (.nil)) hb3) (fun _ => rfl) rfl (fun _ _ _ => rfl) (.x (f := fun gs_ => ⟨22, vBool, t6⟩) 0 (fun gs_ => [⟨12, (k_code_look).v, l⟩, ⟨14, vInt .i64, x.To⟩, ⟨21, vInt .i64, t4⟩]) rfl (fun gs_ => l_call (ok45 l x.To t4 _ h7) (.cons (o_t rfl) (.cons (o_t rfl) (.cons (o_t rfl) (.nil)))) (lt rfl)) (fun gs_ => .d 5 rfl rfl (.d 7 rfl rfl (.d 14 rfl rfl (.nil)))) (.s rfl (fun gs_ => .d 4 rfl rfl (.nil)) hb3) (fun _ => rfl) rfl (fun _ _ _ => rfl) (.x (f := fun gs_ => ⟨23, vBool, t6⟩) 0 (fun gs_ => [⟨11, vBool, t1⟩, ⟨22, vBool, t6⟩]) rfl (fun gs_ => l_pickt (o_t rfl) hb3 (o_t rfl) (lt rfl)) (fun gs_ => .d 4 rfl rfl (.d 15 rfl rfl (.nil))) .n (fun _ => rfl) rfl (fun _ _ _ => rfl) (.x (f := fun gs_ => ⟨6, vBool, t6⟩) 0 (fun gs_ => [⟨23, vBool, t6⟩]) rfl (fun gs_ => l_assign (o_t rfl) (lt rfl)) (fun gs_ => .d 16 rfl rfl (.nil)) .n (fun _ => rfl) rfl (fun _ _ _ => rfl) (.nil))))))))))))))))))) (fun gs_ hgs_ => ?_)
    refine k_seq ?_
    cases hp_
    exact t_ret (k_ret () rfl rfl rfl rfl rfl)
-- pointsman/bits.alikes$1
theorem ok123 (a : aBits) (b : aBits) (y_ : aBits) (hp_ : bits_alikes_1 a b = some y_) : FP Tryz.prog 123 [⟨(k_aBits).v, a⟩, ⟨(k_aBits).v, b⟩] ((k_aBits).v) y_ := by
  unfold bits_alikes_1 at hp_
  refine fc_of 31 Tryz.func123 rfl fn123 rfl (Nat.le_of_ble_eq_true rfl) fun I_ w_ F_ => ?_
  refine t_seq ?_
  refine t_reg ?_
  refine st (l_box (o_t rfl) (lt rfl)) ?_
  refine st (l_box (o_t rfl) (lt rfl)) ?_
  refine r_alloc zr72 (lt rfl) (fun b1 => ?_)
  refine r_nil (k_seq ?_)
  refine t_seq ?_
  refine t_reg ?_
  refine st (l_fa (o_t rfl) fl_aBits_2 fa72_2 (lt rfl)) ?_
  refine st (l_ld (o_t rfl) ty70 (lt rfl)) ?_
  refine st (l_fa (o_t rfl) fl_aBits_2 fa72_2 (lt rfl)) ?_
  refine st (l_ld (o_t rfl) ty70 (lt rfl)) ?_
  obtain ⟨t3, h4, hp_⟩ := bs hp_
  refine st (l_xt xt124 (.cons (o_t rfl) (.cons (o_t rfl) (.cons (o_i) (.nil)))) (x_add64 h4) (lt rfl)) ?_
  refine st (l_move (o_t rfl) (lt rfl)) ?_
  refine st (l_ext (x := t3) (L := (vlCons (vInt .u64) (vlCons (vInt .u64) vlNil))) (get := fun x => x.1) (o_t rfl) VGet.z (lt rfl)) ?_
  refine st (l_ext (x := t3) (L := (vlCons (vInt .u64) (vlCons (vInt .u64) vlNil))) (get := fun x => x.2.1) (o_t rfl) (VGet.s VGet.z) (lt rfl)) ?_
  refine st (l_assign (o_t rfl) (lt rfl)) ?_
  refine st (l_assign (o_t rfl) (lt rfl)) ?_
  refine r_nil (k_seq ?_)
  refine t_seq ?_
  refine t_reg ?_
  refine st (l_fa (o_t rfl) fl_aBits_1 fa72_1 (lt rfl)) ?_
  refine st (l_ld (o_t rfl) ty70 (lt rfl)) ?_
  refine st (l_fa (o_t rfl) fl_aBits_1 fa72_1 (lt rfl)) ?_
  refine st (l_ld (o_t rfl) ty70 (lt rfl)) ?_
  refine st (l_move (o_t rfl) (lt rfl)) ?_
  obtain ⟨t5, h6, hp_⟩ := bs hp_
  refine st (l_xt xt124 (.cons (o_t rfl) (.cons (o_t rfl) (.cons (o_t rfl) (.nil)))) (x_add64 h6) (lt rfl)) ?_
  refine st (l_move (o_t rfl) (lt rfl)) ?_
  refine st (l_ext (x := t5) (L := (vlCons (vInt .u64) (vlCons (vInt .u64) vlNil))) (get := fun x => x.1) (o_t rfl) VGet.z (lt rfl)) ?_
  refine st (l_ext (x := t5) (L := (vlCons (vInt .u64) (vlCons (vInt .u64) vlNil))) (get := fun x => x.2.1) (o_t rfl) (VGet.s VGet.z) (lt rfl)) ?_
  refine st (l_assign (o_t rfl) (lt rfl)) ?_
  refine st (l_assign (o_t rfl) (lt rfl)) ?_
  refine r_nil (k_seq ?_)
  refine t_seq ?_
  refine t_reg ?_
  refine st (l_fa (o_t rfl) fl_aBits_0 fa72_0 (lt rfl)) ?_
  refine st (l_ld (o_t rfl) ty3 (lt rfl)) ?_
  refine st (l_move (o_t rfl) (lt rfl)) ?_
  refine st (l_move (o_t rfl) (lt rfl)) ?_
  obtain ⟨t7, h8, hp_⟩ := bs hp_
  refine st (l_call (ok79 a.W t5.1 t3.1 _ h8) (.cons (o_t rfl) (.cons (o_t rfl) (.cons (o_t rfl) (.nil)))) (lt rfl)) ?_
  refine r_stm (i := 0) (o_t rfl) (o_t rfl) rfl (Fld.refl _) sz72 ?_
  refine r_nil (k_seq ?_)
  cases hp_
  exact t_ret (k_frzb (s := 4) (i := 0) rfl rfl <| k_drop <| k_retc () rfl ty72 rfl rfl rfl rfl)
-- pointsman/bits.alikes$2
theorem ok125 (a : aBits) (b : aBits) (y_ : aBits) (hp_ : bits_alikes_2 a b = some y_) : FP Tryz.prog 125 [⟨(k_aBits).v, a⟩, ⟨(k_aBits).v, b⟩] ((k_aBits).v) y_ := by
  unfold bits_alikes_2 at hp_
  refine fc_of 31 Tryz.func125 rfl fn125 rfl (Nat.le_of_ble_eq_true rfl) fun I_ w_ F_ => ?_
  refine t_seq ?_
  refine t_reg ?_
  refine st (l_box (o_t rfl) (lt rfl)) ?_
  refine st (l_box (o_t rfl) (lt rfl)) ?_
  refine r_alloc zr72 (lt rfl) (fun b1 => ?_)
  refine r_nil (k_seq ?_)
  refine t_seq ?_
  refine t_reg ?_
  refine st (l_fa (o_t rfl) fl_aBits_2 fa72_2 (lt rfl)) ?_
  refine st (l_ld (o_t rfl) ty70 (lt rfl)) ?_
  refine st (l_fa (o_t rfl) fl_aBits_2 fa72_2 (lt rfl)) ?_
  refine st (l_ld (o_t rfl) ty70 (lt rfl)) ?_
  obtain ⟨t3, h4, hp_⟩ := bs hp_
  refine st (l_xt xt126 (.cons (o_t rfl) (.cons (o_t rfl) (.cons (o_i) (.nil)))) (x_sub64 h4) (lt rfl)) ?_
  refine st (l_move (o_t rfl) (lt rfl)) ?_
  refine st (l_ext (x := t3) (L := (vlCons (vInt .u64) (vlCons (vInt .u64) vlNil))) (get := fun x => x.1) (o_t rfl) VGet.z (lt rfl)) ?_
  refine st (l_ext (x := t3) (L := (vlCons (vInt .u64) (vlCons (vInt .u64) vlNil))) (get := fun x => x.2.1) (o_t rfl) (VGet.s VGet.z) (lt rfl)) ?_
  refine st (l_assign (o_t rfl) (lt rfl)) ?_
  refine st (l_assign (o_t rfl) (lt rfl)) ?_
  refine r_nil (k_seq ?_)
  refine t_seq ?_
  refine t_reg ?_
  refine st (l_fa (o_t rfl) fl_aBits_1 fa72_1 (lt rfl)) ?_
  refine st (l_ld (o_t rfl) ty70 (lt rfl)) ?_
  refine st (l_fa (o_t rfl) fl_aBits_1 fa72_1 (lt rfl)) ?_
  refine st (l_ld (o_t rfl) ty70 (lt rfl)) ?_
  refine st (l_move (o_t rfl) (lt rfl)) ?_
  obtain ⟨t5, h6, hp_⟩ := bs hp_
  refine st (l_xt xt126 (.cons (o_t rfl) (.cons (o_t rfl) (.cons (o_t rfl) (.nil)))) (x_sub64 h6) (lt rfl)) ?_
  refine st (l_move (o_t rfl) (lt rfl)) ?_
  refine st (l_ext (x := t5) (L := (vlCons (vInt .u64) (vlCons (vInt .u64) vlNil))) (get := fun x => x.1) (o_t rfl) VGet.z (lt rfl)) ?_
  refine st (l_ext (x := t5) (L := (vlCons (vInt .u64) (vlCons (vInt .u64) vlNil))) (get := fun x => x.2.1) (o_t rfl) (VGet.s VGet.z) (lt rfl)) ?_
  refine st (l_assign (o_t rfl) (lt rfl)) ?_
  refine st (l_assign (o_t rfl) (lt rfl)) ?_
  refine r_nil (k_seq ?_)
  refine t_seq ?_
  refine t_reg ?_
  refine st (l_fa (o_t rfl) fl_aBits_0 fa72_0 (lt rfl)) ?_
  refine st (l_ld (o_t rfl) ty3 (lt rfl)) ?_
  refine st (l_move (o_t rfl) (lt rfl)) ?_
  refine st (l_move (o_t rfl) (lt rfl)) ?_
  obtain ⟨t7, h8, hp_⟩ := bs hp_
  refine st (l_call (ok79 a.W t5.1 t3.1 _ h8) (.cons (o_t rfl) (.cons (o_t rfl) (.cons (o_t rfl) (.nil)))) (lt rfl)) ?_
  refine r_stm (i := 0) (o_t rfl) (o_t rfl) rfl (Fld.refl _) sz72 ?_
  refine r_nil (k_seq ?_)
  cases hp_
  exact t_ret (k_frzb (s := 4) (i := 0) rfl rfl <| k_drop <| k_retc () rfl ty72 rfl rfl rfl rfl)
-- math/bits.Mul64
theorem ok128 (x : Int) (y : Int) (y_ : Int × Int × Unit) (hp_ : math_bits_Mul64 x y = some y_) : FP Tryz.prog 128 [⟨vInt .u64, x⟩, ⟨vInt .u64, y⟩] (vTup (vlCons (vInt .u64) (vlCons (vInt .u64) vlNil))) y_ := by
  unfold math_bits_Mul64 at hp_
  refine fc_of 51 Tryz.func128 rfl fn128 rfl (Nat.le_of_ble_eq_true rfl) fun I_ w_ F_ => ?_
  refine t_seq ?_
  refine t_reg ?_
  refine st (l_assign (o_i) (lt rfl)) ?_
  refine st (l_assign (o_i) (lt rfl)) ?_
  refine r_nil (k_seq ?_)
  refine t_seq ?_
  refine t_reg ?_
  refine st (l_move (o_t rfl) (lt rfl)) ?_
  refine st (l_bin (o_t rfl) (o_i) .and (lt rfl)) ?_
  refine st (l_assign (o_t rfl) (lt rfl)) ?_
  refine r_nil (k_seq ?_)
  refine t_seq ?_
  refine t_reg ?_
  refine st (l_move (o_t rfl) (lt rfl)) ?_
  refine st (l_sh (o_t rfl) (o_i) (by decide) .shr (lt rfl)) ?_
  refine st (l_assign (o_t rfl) (lt rfl)) ?_
  refine r_nil (k_seq ?_)
  refine t_seq ?_
  refine t_reg ?_
  refine st (l_move (o_t rfl) (lt rfl)) ?_
  refine st (l_bin (o_t rfl) (o_i) .and (lt rfl)) ?_
  refine st (l_assign (o_t rfl) (lt rfl)) ?_
  refine r_nil (k_seq ?_)
  refine t_seq ?_
  refine t_reg ?_
  refine st (l_move (o_t rfl) (lt rfl)) ?_
  refine st (l_sh (o_t rfl) (o_i) (by decide) .shr (lt rfl)) ?_
  refine st (l_assign (o_t rfl) (lt rfl)) ?_
  refine r_nil (k_seq ?_)
  refine t_seq ?_
  refine t_reg ?_
  refine st (l_move (o_t rfl) (lt rfl)) ?_
  refine st (l_move (o_t rfl) (lt rfl)) ?_
  refine st (l_bin (o_t rfl) (o_t rfl) .mul (lt rfl)) ?_
  refine st (l_assign (o_t rfl) (lt rfl)) ?_
  refine r_nil (k_seq ?_)
  refine t_seq ?_
  refine t_reg ?_
  refine st (l_move (o_t rfl) (lt rfl)) ?_
  refine st (l_move (o_t rfl) (lt rfl)) ?_
  refine st (l_bin (o_t rfl) (o_t rfl) .mul (lt rfl)) ?_
  refine st (l_move (o_t rfl) (lt rfl)) ?_
  refine st (l_sh (o_t rfl) (o_i) (by decide) .shr (lt rfl)) ?_
  refine st (l_bin (o_t rfl) (o_t rfl) .add (lt rfl)) ?_
  refine st (l_assign (o_t rfl) (lt rfl)) ?_
  refine r_nil (k_seq ?_)
  refine t_seq ?_
  refine t_reg ?_
  refine st (l_move (o_t rfl) (lt rfl)) ?_
  refine st (l_bin (o_t rfl) (o_i) .and (lt rfl)) ?_
  refine st (l_assign (o_t rfl) (lt rfl)) ?_
  refine r_nil (k_seq ?_)
  refine t_seq ?_
  refine t_reg ?_
  refine st (l_move (o_t rfl) (lt rfl)) ?_
  refine st (l_sh (o_t rfl) (o_i) (by decide) .shr (lt rfl)) ?_
  refine st (l_assign (o_t rfl) (lt rfl)) ?_
  refine r_nil (k_seq ?_)
  refine t_seq ?_
  refine t_reg ?_
  refine st (l_move (o_t rfl) (lt rfl)) ?_
  refine st (l_move (o_t rfl) (lt rfl)) ?_
  refine st (l_move (o_t rfl) (lt rfl)) ?_
  refine st (l_bin (o_t rfl) (o_t rfl) .mul (lt rfl)) ?_
  refine st (l_bin (o_t rfl) (o_t rfl) .add (lt rfl)) ?_
  refine st (l_assign (o_t rfl) (lt rfl)) ?_
  refine r_nil (k_seq ?_)
  refine t_seq ?_
  refine t_reg ?_
  refine st (l_move (o_t rfl) (lt rfl)) ?_
  refine st (l_move (o_t rfl) (lt rfl)) ?_
  refine st (l_bin (o_t rfl) (o_t rfl) .mul (lt rfl)) ?_
  refine st (l_move (o_t rfl) (lt rfl)) ?_
  refine st (l_bin (o_t rfl) (o_t rfl) .add (lt rfl)) ?_
  refine st (l_move (o_t rfl) (lt rfl)) ?_
  refine st (l_sh (o_t rfl) (o_i) (by decide) .shr (lt rfl)) ?_
  refine st (l_bin (o_t rfl) (o_t rfl) .add (lt rfl)) ?_
  refine st (l_assign (o_t rfl) (lt rfl)) ?_
  refine r_nil (k_seq ?_)
  refine t_seq ?_
  refine t_reg ?_
  refine st (l_move (o_t rfl) (lt rfl)) ?_
  refine st (l_move (o_t rfl) (lt rfl)) ?_
  refine st (l_bin (o_t rfl) (o_t rfl) .mul (lt rfl)) ?_
  refine st (l_assign (o_t rfl) (lt rfl)) ?_
  refine r_nil (k_seq ?_)
  cases hp_
  exact t_ret (k_rets () rfl rfl (.cons rfl (.cons rfl .nil)) rfl rfl rfl)
-- pointsman/bits.alikes$3
theorem ok127 (a : aBits) (b : aBits) (y_ : aBits) (hp_ : bits_alikes_3 a b = some y_) : FP Tryz.prog 127 [⟨(k_aBits).v, a⟩, ⟨(k_aBits).v, b⟩] ((k_aBits).v) y_ := by
  unfold bits_alikes_3 at hp_
  refine fc_of 32 Tryz.func127 rfl fn127 rfl (Nat.le_of_ble_eq_true rfl) fun I_ w_ F_ => ?_
  refine t_seq ?_
  refine t_reg ?_
  refine st (l_box (o_t rfl) (lt rfl)) ?_
  refine st (l_box (o_t rfl) (lt rfl)) ?_
  refine r_alloc zr72 (lt rfl) (fun b1 => ?_)
  refine r_nil (k_seq ?_)
  refine t_seq ?_
  refine t_reg ?_
  refine st (l_fa (o_t rfl) fl_aBits_2 fa72_2 (lt rfl)) ?_
  refine st (l_ld (o_t rfl) ty70 (lt rfl)) ?_
  refine st (l_fa (o_t rfl) fl_aBits_2 fa72_2 (lt rfl)) ?_
  refine st (l_ld (o_t rfl) ty70 (lt rfl)) ?_
  obtain ⟨t3, h4, hp_⟩ := bs hp_
  refine st (l_call (ok128 a.Lo b.Lo _ h4) (.cons (o_t rfl) (.cons (o_t rfl) (.nil))) (lt rfl)) ?_
  refine st (l_move (o_t rfl) (lt rfl)) ?_
  refine st (l_ext (x := t3) (L := (vlCons (vInt .u64) (vlCons (vInt .u64) vlNil))) (get := fun x => x.1) (o_t rfl) VGet.z (lt rfl)) ?_
  refine st (l_ext (x := t3) (L := (vlCons (vInt .u64) (vlCons (vInt .u64) vlNil))) (get := fun x => x.2.1) (o_t rfl) (VGet.s VGet.z) (lt rfl)) ?_
  refine st (l_assign (o_t rfl) (lt rfl)) ?_
  refine st (l_assign (o_t rfl) (lt rfl)) ?_
  refine r_nil (k_seq ?_)
  refine t_seq ?_
  refine t_reg ?_
  refine st (l_fa (o_t rfl) fl_aBits_0 fa72_0 (lt rfl)) ?_
  refine st (l_ld (o_t rfl) ty3 (lt rfl)) ?_
  refine st (l_move (o_t rfl) (lt rfl)) ?_
  refine st (l_fa (o_t rfl) fl_aBits_1 fa72_1 (lt rfl)) ?_
  refine st (l_ld (o_t rfl) ty70 (lt rfl)) ?_
  refine st (l_fa (o_t rfl) fl_aBits_2 fa72_2 (lt rfl)) ?_
  refine st (l_ld (o_t rfl) ty70 (lt rfl)) ?_
  refine st (l_bin (o_t rfl) (o_t rfl) .mul (lt rfl)) ?_
  refine st (l_bin (o_t rfl) (o_t rfl) .add (lt rfl)) ?_
  refine st (l_fa (o_t rfl) fl_aBits_2 fa72_2 (lt rfl)) ?_
  refine st (l_ld (o_t rfl) ty70 (lt rfl)) ?_
  refine st (l_fa (o_t rfl) fl_aBits_1 fa72_1 (lt rfl)) ?_
  refine st (l_ld (o_t rfl) ty70 (lt rfl)) ?_
  refine st (l_bin (o_t rfl) (o_t rfl) .mul (lt rfl)) ?_
  refine st (l_bin (o_t rfl) (o_t rfl) .add (lt rfl)) ?_
  refine st (l_move (o_t rfl) (lt rfl)) ?_
  obtain ⟨t5, h6, hp_⟩ := bs hp_
  refine st (l_call (ok79 a.W (IntKind.wrap .u64 ((IntKind.wrap .u64 (t3.1 + (IntKind.wrap .u64 (a.Hi * b.Lo)))) + (IntKind.wrap .u64 (a.Lo * b.Hi)))) t3.2.1 _ h6) (.cons (o_t rfl) (.cons (o_t rfl) (.cons (o_t rfl) (.nil)))) (lt rfl)) ?_
  refine r_stm (i := 0) (o_t rfl) (o_t rfl) rfl (Fld.refl _) sz72 ?_
  refine r_nil (k_seq ?_)
  cases hp_
  exact t_ret (k_frzb (s := 4) (i := 0) rfl rfl <| k_drop <| k_retc () rfl ty72 rfl rfl rfl rfl)
-- pointsman/bits.alikes$4
theorem ok129 (a : aBits) (b : aBits) (y_ : aBits) (hp_ : bits_alikes_4 a b = some y_) : FP Tryz.prog 129 [⟨(k_aBits).v, a⟩, ⟨(k_aBits).v, b⟩] ((k_aBits).v) y_ := by
  unfold bits_alikes_4 at hp_
  refine fc_of 18 Tryz.func129 rfl fn129 rfl (Nat.le_of_ble_eq_true rfl) fun I_ w_ F_ => ?_
  refine t_seq ?_
  refine t_reg ?_
  refine st (l_box (o_t rfl) (lt rfl)) ?_
  refine st (l_box (o_t rfl) (lt rfl)) ?_
  refine r_alloc zr72 (lt rfl) (fun b1 => ?_)
  refine r_nil (k_seq ?_)
  refine t_seq ?_
  refine t_reg ?_
  refine st (l_fa (o_t rfl) fl_aBits_0 fa72_0 (lt rfl)) ?_
  refine st (l_ld (o_t rfl) ty3 (lt rfl)) ?_
  refine st (l_fa (o_t rfl) fl_aBits_1 fa72_1 (lt rfl)) ?_
  refine st (l_ld (o_t rfl) ty70 (lt rfl)) ?_
  refine st (l_fa (o_t rfl) fl_aBits_1 fa72_1 (lt rfl)) ?_
  refine st (l_ld (o_t rfl) ty70 (lt rfl)) ?_
  refine st (l_bin (o_t rfl) (o_t rfl) .and (lt rfl)) ?_
  refine st (l_fa (o_t rfl) fl_aBits_2 fa72_2 (lt rfl)) ?_
  refine st (l_ld (o_t rfl) ty70 (lt rfl)) ?_
  refine st (l_fa (o_t rfl) fl_aBits_2 fa72_2 (lt rfl)) ?_
  refine st (l_ld (o_t rfl) ty70 (lt rfl)) ?_
  refine st (l_bin (o_t rfl) (o_t rfl) .and (lt rfl)) ?_
  obtain ⟨t3, h4, hp_⟩ := bs hp_
  refine st (l_call (ok79 a.W (iand .u64 a.Hi b.Hi) (iand .u64 a.Lo b.Lo) _ h4) (.cons (o_t rfl) (.cons (o_t rfl) (.cons (o_t rfl) (.nil)))) (lt rfl)) ?_
  refine r_stm (i := 0) (o_t rfl) (o_t rfl) rfl (Fld.refl _) sz72 ?_
  refine r_nil (k_seq ?_)
  cases hp_
  exact t_ret (k_frzb (s := 4) (i := 0) rfl rfl <| k_drop <| k_retc () rfl ty72 rfl rfl rfl rfl)
-- pointsman/bits.alikes$5
theorem ok130 (a : aBits) (b : aBits) (y_ : aBits) (hp_ : bits_alikes_5 a b = some y_) : FP Tryz.prog 130 [⟨(k_aBits).v, a⟩, ⟨(k_aBits).v, b⟩] ((k_aBits).v) y_ := by
  unfold bits_alikes_5 at hp_
  refine fc_of 18 Tryz.func130 rfl fn130 rfl (Nat.le_of_ble_eq_true rfl) fun I_ w_ F_ => ?_
  refine t_seq ?_
  refine t_reg ?_
  refine st (l_box (o_t rfl) (lt rfl)) ?_
  refine st (l_box (o_t rfl) (lt rfl)) ?_
  refine r_alloc zr72 (lt rfl) (fun b1 => ?_)
  refine r_nil (k_seq ?_)
  refine t_seq ?_
  refine t_reg ?_
  refine st (l_fa (o_t rfl) fl_aBits_0 fa72_0 (lt rfl)) ?_
  refine st (l_ld (o_t rfl) ty3 (lt rfl)) ?_
  refine st (l_fa (o_t rfl) fl_aBits_1 fa72_1 (lt rfl)) ?_
  refine st (l_ld (o_t rfl) ty70 (lt rfl)) ?_
  refine st (l_fa (o_t rfl) fl_aBits_1 fa72_1 (lt rfl)) ?_
  refine st (l_ld (o_t rfl) ty70 (lt rfl)) ?_
  refine st (l_bin (o_t rfl) (o_t rfl) .or (lt rfl)) ?_
  refine st (l_fa (o_t rfl) fl_aBits_2 fa72_2 (lt rfl)) ?_
  refine st (l_ld (o_t rfl) ty70 (lt rfl)) ?_
  refine st (l_fa (o_t rfl) fl_aBits_2 fa72_2 (lt rfl)) ?_
  refine st (l_ld (o_t rfl) ty70 (lt rfl)) ?_
  refine st (l_bin (o_t rfl) (o_t rfl) .or (lt rfl)) ?_
  obtain ⟨t3, h4, hp_⟩ := bs hp_
  refine st (l_call (ok79 a.W (ior .u64 a.Hi b.Hi) (ior .u64 a.Lo b.Lo) _ h4) (.cons (o_t rfl) (.cons (o_t rfl) (.cons (o_t rfl) (.nil)))) (lt rfl)) ?_
  refine r_stm (i := 0) (o_t rfl) (o_t rfl) rfl (Fld.refl _) sz72 ?_
  refine r_nil (k_seq ?_)
  cases hp_
  exact t_ret (k_frzb (s := 4) (i := 0) rfl rfl <| k_drop <| k_retc () rfl ty72 rfl rfl rfl rfl)
end Go.Proofs.YtpaggjifaelcnaaGreat
