/- A part of the proof: an abstract machine over the program (sound by its theorems), or definitions printed by it. There is no condition. -/
import Derived.Test.YtpedakafdiejfaaKmXTy
namespace Km.X
open Go Km Go.Proofs
set_option linter.unusedVariables false
set_option maxRecDepth 100000
def laws_FnExactConstants (k : Nat) : Option (Bool) :=
  some true
def S_laws_FnExactConstants (k : Nat) : Summ K TyK where
  R := Bool
  modes := []
  run := fun args objs => match args, objs with
    | [], [] => laws_FnExactConstants k
    | _, _ => none
  ret := fun r => (.lit (.bool r), [])
  quiet := true
def D_laws_FnExactConstants (v : V) (os : Objs K TyK) : Option (Bool) :=
  match v, os with
  | .lit (.bool v1), [] => some v1
  | _, _ => none
abbrev G_laws_FnExactConstants (k : Nat) : FuncId → Option (Summ K TyK) := lookT []
abbrev L_laws_FnExactConstants : List (Nat × Cut K TyK (Bool)) := []
theorem e_laws_FnExactConstants (k : Nat) : run cod T (G_laws_FnExactConstants k) (lam L_laws_FnExactConstants k) (cutsOf L_laws_FnExactConstants) 0 (finish cod T false 0 [.tmp 0] D_laws_FnExactConstants) 4000 false [.code (bodyOf Try.f3)] (envOf [] []) [] = laws_FnExactConstants k := by kernel_rfl
theorem ok_laws_FnExactConstants (k : Nat) : SummOk Try.prog cod 3 (S_laws_FnExactConstants k) := by
  refine summ_of (T := T) Try.f3 (G_laws_FnExactConstants) L_laws_FnExactConstants false [.tmp 0] 0 D_laws_FnExactConstants mixed (fun k => Known.of tok eok codOk ?_) (fun k => QuietOk.of ?_) Try.func3 (by kernel_rfl) (by kernel_rfl) (by kernel_rfl) (by kernel_rfl) (by kernel_rfl) ?_ ?_ ?_
  · exact all_nil
  · exact all_nil
  · intro v os r h
    unfold D_laws_FnExactConstants at h
    split at h <;> first | (cases h; rfl) | cases h
  · refine all_nil
  · intro args os r h
    change (S_laws_FnExactConstants k).run args os = some r at h
    unfold S_laws_FnExactConstants at h; dsimp only at h
    split at h
    · exact ⟨Nat.le_of_ble_eq_true (by kernel_rfl), rfl, k, 4000, (e_laws_FnExactConstants k).trans h⟩
    · cases h
def spec_l1In (k : Nat) (a0 : Int) (a1 : Int) (a2 : Int) : Option (Bool) :=
  match (decide (a0 ≥ a1)) with
  | true =>
    some (decide (a0 ≤ a2))
  | false =>
    some false
def S_spec_l1In (k : Nat) : Summ K TyK where
  R := Bool
  modes := [.bo, .bo, .bo]
  run := fun args objs => match args, objs with
    | [.lit (.int .i64 v1), .lit (.int .i64 v2), .lit (.int .i64 v3)], [] => spec_l1In k v1 v2 v3
    | _, _ => none
  ret := fun r => (.lit (.bool r), [])
  quiet := true
def D_spec_l1In (v : V) (os : Objs K TyK) : Option (Bool) :=
  match v, os with
  | .lit (.bool v1), [] => some v1
  | _, _ => none
abbrev G_spec_l1In (k : Nat) : FuncId → Option (Summ K TyK) := lookT []
abbrev L_spec_l1In : List (Nat × Cut K TyK (Bool)) := []
theorem e_spec_l1In (k : Nat) (a0 : Int) (a1 : Int) (a2 : Int) : run cod T (G_spec_l1In k) (lam L_spec_l1In k) (cutsOf L_spec_l1In) 0 (finish cod T false 0 [.tmp 6] D_spec_l1In) 4000 false [.code (bodyOf Try.f24)] (envOf [0, 1, 2] [.lit (.int .i64 a0), .lit (.int .i64 a1), .lit (.int .i64 a2)]) [] = spec_l1In k a0 a1 a2 := by kernel_rfl
theorem ok_spec_l1In (k : Nat) : SummOk Try.prog cod 24 (S_spec_l1In k) := by
  refine summ_of (T := T) Try.f24 (G_spec_l1In) L_spec_l1In false [.tmp 6] 0 D_spec_l1In mixed (fun k => Known.of tok eok codOk ?_) (fun k => QuietOk.of ?_) Try.func24 (by kernel_rfl) (by kernel_rfl) (by kernel_rfl) (by kernel_rfl) (by kernel_rfl) ?_ ?_ ?_
  · exact all_nil
  · exact all_nil
  · intro v os r h
    unfold D_spec_l1In at h
    split at h <;> first | (cases h; rfl) | cases h
  · refine all_nil
  · intro args os r h
    change (S_spec_l1In k).run args os = some r at h
    unfold S_spec_l1In at h; dsimp only at h
    split at h
    · exact ⟨Nat.le_of_ble_eq_true (by kernel_rfl), rfl, k, 4000, (e_spec_l1In k _ _ _).trans h⟩
    · cases h
mutual
def spec_Tag_l6 : Nat → Int → ByteArray → Int → Int → Option (ByteArray)
  | 0, _, _, _, _ => none
  | k + 1, x0, x1, x2, x3 =>
    match (decide (x3 < (x1.size : Int))) with
    | true =>
      (bidx x1 x3).bind fun c4 =>
      spec_Tag_l6 k x0 x1 (IntKind.wrap .u64 ((bitsXor .u64 x2 (IntKind.wrap .u64 (c4.toNat : Int))) * 1099511628211)) (IntKind.wrap .i64 (x3 + 1))
    | false =>
      spec_Tag_l11 k x0 x2 (⟨#[]⟩ : ByteArray) 0
def spec_Tag_l11 : Nat → Int → Int → ByteArray → Int → Option (ByteArray)
  | 0, _, _, _, _ => none
  | k + 1, x0, x1, x2, x3 =>
    match (decide (x3 < x0)) with
    | true =>
      (qrem x1 256).bind fun q5 =>
      (sadd (bstr ([(IntKind.wrap .u8 q5)] : List Int)) x2).bind fun t6 =>
      (qdiv x1 256).bind fun q7 =>
      spec_Tag_l11 k x0 (IntKind.wrap .u64 (q7)) t6 (IntKind.wrap .i64 (x3 + 1))
    | false =>
      some x2
end
def spec_Tag (k : Nat) (a0 : ByteArray) (a1 : ByteArray) (a2 : Int) : Option (ByteArray) :=
  (spec_l1In k a2 1 8).bind fun r1 =>
  match (!r1) with
  | true =>
    some (⟨#[]⟩ : ByteArray)
  | false =>
    match (decide ((a1.size : Int) > 30)) with
    | true =>
      some (⟨#[]⟩ : ByteArray)
    | false =>
      (sadd a1 (⟨#[0]⟩ : ByteArray)).bind fun t2 =>
      (sadd t2 a0).bind fun t3 =>
      spec_Tag_l6 k a2 t3 14695981039346656037 0
def S_spec_Tag (k : Nat) : Summ K TyK where
  R := ByteArray
  modes := [.bo, .bo, .bo]
  run := fun args objs => match args, objs with
    | [.lit (.string v1), .lit (.string v2), .lit (.int .i64 v3)], [] => spec_Tag k v1 v2 v3
    | _, _ => none
  ret := fun r => (.lit (.string r), [])
  quiet := true
def D_spec_Tag (v : V) (os : Objs K TyK) : Option (ByteArray) :=
  match v, os with
  | .lit (.string v1), [] => some v1
  | _, _ => none
def C_spec_Tag_6 : Cut K TyK (ByteArray) where
  slots := [2, 7, 8, 9]
  fn := fun k vs os => match vs, os with
    | [.lit (.int .i64 x0), .lit (.string x1), .lit (.int .u64 x2), .lit (.int .i64 x3)], [] => spec_Tag_l6 k x0 x1 x2 x3
    | _, _ => none
def C_spec_Tag_11 : Cut K TyK (ByteArray) where
  slots := [2, 8, 10, 11]
  fn := fun k vs os => match vs, os with
    | [.lit (.int .i64 x0), .lit (.int .u64 x1), .lit (.string x2), .lit (.int .i64 x3)], [] => spec_Tag_l11 k x0 x1 x2 x3
    | _, _ => none
abbrev G_spec_Tag (k : Nat) : FuncId → Option (Summ K TyK) := lookT [(24, S_spec_l1In k)]
abbrev L_spec_Tag : List (Nat × Cut K TyK (ByteArray)) := [(6, C_spec_Tag_6), (11, C_spec_Tag_11)]
theorem c_spec_Tag_6 (k : Nat) (x0 : Int) (x1 : ByteArray) (x2 : Int) (x3 : Int) : run cod T (G_spec_Tag k) (lam L_spec_Tag k) (cutsOf L_spec_Tag) 0 (finish cod T false 0 [.tmp 6] D_spec_Tag) 4000 true (todoAt 6 (bodyOf Try.f8)) (envOf [2, 7, 8, 9] [.lit (.int .i64 x0), .lit (.string x1), .lit (.int .u64 x2), .lit (.int .i64 x3)]) [] = spec_Tag_l6 (k + 1) x0 x1 x2 x3 := by kernel_rfl
theorem c_spec_Tag_11 (k : Nat) (x0 : Int) (x1 : Int) (x2 : ByteArray) (x3 : Int) : run cod T (G_spec_Tag k) (lam L_spec_Tag k) (cutsOf L_spec_Tag) 0 (finish cod T false 0 [.tmp 6] D_spec_Tag) 4000 true (todoAt 11 (bodyOf Try.f8)) (envOf [2, 8, 10, 11] [.lit (.int .i64 x0), .lit (.int .u64 x1), .lit (.string x2), .lit (.int .i64 x3)]) [] = spec_Tag_l11 (k + 1) x0 x1 x2 x3 := by kernel_rfl
theorem e_spec_Tag (k : Nat) (a0 : ByteArray) (a1 : ByteArray) (a2 : Int) : run cod T (G_spec_Tag k) (lam L_spec_Tag k) (cutsOf L_spec_Tag) 0 (finish cod T false 0 [.tmp 6] D_spec_Tag) 4000 false [.code (bodyOf Try.f8)] (envOf [0, 1, 2] [.lit (.string a0), .lit (.string a1), .lit (.int .i64 a2)]) [] = spec_Tag k a0 a1 a2 := by kernel_rfl
theorem ok_spec_Tag (k : Nat) : SummOk Try.prog cod 8 (S_spec_Tag k) := by
  refine summ_of (T := T) Try.f8 (G_spec_Tag) L_spec_Tag false [.tmp 6] 0 D_spec_Tag mixed (fun k => Known.of tok eok codOk ?_) (fun k => QuietOk.of ?_) Try.func8 (by kernel_rfl) (by kernel_rfl) (by kernel_rfl) (by kernel_rfl) (by kernel_rfl) ?_ ?_ ?_
  · exact all_cons (ok_spec_l1In k) (all_nil)
  · exact all_cons (fun h r => ⟨rfl, rfl⟩) (all_nil)
  · intro v os r h
    unfold D_spec_Tag at h
    split at h <;> first | (cases h; rfl) | cases h
  · refine all_cons ?_ (all_cons ?_ (all_nil))
    · refine ⟨fun vs os => ?_, by kernel_rfl, fun k vs os r h => ?_⟩
      · show C_spec_Tag_6.fn 0 vs os = none
        unfold C_spec_Tag_6; dsimp only; split <;> rfl
      · change C_spec_Tag_6.fn (k + 1) vs os = some r at h
        unfold C_spec_Tag_6 at h; dsimp only at h
        split at h
        · exact ⟨4000, (c_spec_Tag_6 k _ _ _ _).trans h⟩
        · cases h
    · refine ⟨fun vs os => ?_, by kernel_rfl, fun k vs os r h => ?_⟩
      · show C_spec_Tag_11.fn 0 vs os = none
        unfold C_spec_Tag_11; dsimp only; split <;> rfl
      · change C_spec_Tag_11.fn (k + 1) vs os = some r at h
        unfold C_spec_Tag_11 at h; dsimp only at h
        split at h
        · exact ⟨4000, (c_spec_Tag_11 k _ _ _ _).trans h⟩
        · cases h
  · intro args os r h
    change (S_spec_Tag k).run args os = some r at h
    unfold S_spec_Tag at h; dsimp only at h
    split at h
    · exact ⟨Nat.le_of_ble_eq_true (by kernel_rfl), rfl, k, 4000, (e_spec_Tag k _ _ _).trans h⟩
    · cases h
mutual
def impl_Tag_l6 : Nat → Int → Int → ByteArray → Int → Option (ByteArray)
  | 0, _, _, _, _ => none
  | k + 1, x0, x1, x2, x3 =>
    match (decide (x3 < (x2.size : Int))) with
    | true =>
      (bidx x2 x3).bind fun c3 =>
      impl_Tag_l6 k x0 (IntKind.wrap .u64 ((bitsXor .u64 x1 (IntKind.wrap .u64 (c3.toNat : Int))) * 1099511628211)) x2 (IntKind.wrap .i64 (x3 + 1))
    | false =>
      impl_Tag_l11 k x0 x1 7 (List.replicate 8 0)
def impl_Tag_l11 : Nat → Int → Int → Int → List Int → Option (ByteArray)
  | 0, _, _, _, _ => none
  | k + 1, x0, x1, x2, x3 =>
    match (decide (x2 ≥ 0)) with
    | true =>
      (if x3.length = 8 then idx x3 x2 else none).bind fun _ =>
      (x3[(Int.toNat x2)]?).bind fun y4 =>
      (shift .shr .u64 x1 8).bind fun s5 =>
      impl_Tag_l11 k x0 s5 (IntKind.wrap .i64 (x2 - 1)) (x3.set (Int.toNat x2) (IntKind.wrap .u8 x1))
    | false =>
      (if x3.length = 8 then wnd 8 (IntKind.wrap .i64 (8 - x0)) (8 : Int) else none).bind fun p6 =>
      some (bstr (dcut x3 p6.1 p6.2))
end
def impl_Tag (k : Nat) (a0 : ByteArray) (a1 : ByteArray) (a2 : Int) : Option (ByteArray) :=
  match (decide (a2 < 1)) with
  | true =>
    some (⟨#[]⟩ : ByteArray)
  | false =>
    match (decide (a2 > 8)) with
    | true =>
      some (⟨#[]⟩ : ByteArray)
    | false =>
      match (decide ((a1.size : Int) > 30)) with
      | true =>
        some (⟨#[]⟩ : ByteArray)
      | false =>
        (sadd a1 (⟨#[0]⟩ : ByteArray)).bind fun t1 =>
        (sadd t1 a0).bind fun t2 =>
        impl_Tag_l6 k a2 14695981039346656037 t2 0
def S_impl_Tag (k : Nat) : Summ K TyK where
  R := ByteArray
  modes := [.bo, .bo, .bo]
  run := fun args objs => match args, objs with
    | [.lit (.string v1), .lit (.string v2), .lit (.int .i64 v3)], [] => impl_Tag k v1 v2 v3
    | _, _ => none
  ret := fun r => (.lit (.string r), [])
  quiet := true
def D_impl_Tag (v : V) (os : Objs K TyK) : Option (ByteArray) :=
  match v, os with
  | .lit (.string v1), [] => some v1
  | _, _ => none
def C_impl_Tag_6 : Cut K TyK (ByteArray) where
  slots := [2, 7, 8, 9]
  fn := fun k vs os => match vs, os with
    | [.lit (.int .i64 x0), .lit (.int .u64 x1), .lit (.string x2), .lit (.int .i64 x3)], [] => impl_Tag_l6 k x0 x1 x2 x3
    | _, _ => none
def C_impl_Tag_11 : Cut K TyK (ByteArray) where
  slots := [2, 7, 10, 11]
  fn := fun k vs os => match vs, os with
    | [.lit (.int .i64 x0), .lit (.int .u64 x1), .eref 0 0 0, .lit (.int .i64 x2)], [.sl .byte x3] => impl_Tag_l11 k x0 x1 x2 x3
    | _, _ => none
abbrev G_impl_Tag (k : Nat) : FuncId → Option (Summ K TyK) := lookT []
abbrev L_impl_Tag : List (Nat × Cut K TyK (ByteArray)) := [(6, C_impl_Tag_6), (11, C_impl_Tag_11)]
theorem c_impl_Tag_6 (k : Nat) (x0 : Int) (x1 : Int) (x2 : ByteArray) (x3 : Int) : run cod T (G_impl_Tag k) (lam L_impl_Tag k) (cutsOf L_impl_Tag) 0 (finish cod T false 0 [.tmp 6] D_impl_Tag) 4000 true (todoAt 6 (bodyOf Try.f9)) (envOf [2, 7, 8, 9] [.lit (.int .i64 x0), .lit (.int .u64 x1), .lit (.string x2), .lit (.int .i64 x3)]) [] = impl_Tag_l6 (k + 1) x0 x1 x2 x3 := by kernel_rfl
theorem c_impl_Tag_11 (k : Nat) (x0 : Int) (x1 : Int) (x2 : Int) (x3 : List Int) : run cod T (G_impl_Tag k) (lam L_impl_Tag k) (cutsOf L_impl_Tag) 0 (finish cod T false 0 [.tmp 6] D_impl_Tag) 4000 true (todoAt 11 (bodyOf Try.f9)) (envOf [2, 7, 10, 11] [.lit (.int .i64 x0), .lit (.int .u64 x1), .eref 0 0 0, .lit (.int .i64 x2)]) [.sl .byte x3] = impl_Tag_l11 (k + 1) x0 x1 x2 x3 := by kernel_rfl
theorem e_impl_Tag (k : Nat) (a0 : ByteArray) (a1 : ByteArray) (a2 : Int) : run cod T (G_impl_Tag k) (lam L_impl_Tag k) (cutsOf L_impl_Tag) 0 (finish cod T false 0 [.tmp 6] D_impl_Tag) 4000 false [.code (bodyOf Try.f9)] (envOf [0, 1, 2] [.lit (.string a0), .lit (.string a1), .lit (.int .i64 a2)]) [] = impl_Tag k a0 a1 a2 := by kernel_rfl
theorem ok_impl_Tag (k : Nat) : SummOk Try.prog cod 9 (S_impl_Tag k) := by
  refine summ_of (T := T) Try.f9 (G_impl_Tag) L_impl_Tag false [.tmp 6] 0 D_impl_Tag mixed (fun k => Known.of tok eok codOk ?_) (fun k => QuietOk.of ?_) Try.func9 (by kernel_rfl) (by kernel_rfl) (by kernel_rfl) (by kernel_rfl) (by kernel_rfl) ?_ ?_ ?_
  · exact all_nil
  · exact all_nil
  · intro v os r h
    unfold D_impl_Tag at h
    split at h <;> first | (cases h; rfl) | cases h
  · refine all_cons ?_ (all_cons ?_ (all_nil))
    · refine ⟨fun vs os => ?_, by kernel_rfl, fun k vs os r h => ?_⟩
      · show C_impl_Tag_6.fn 0 vs os = none
        unfold C_impl_Tag_6; dsimp only; split <;> rfl
      · change C_impl_Tag_6.fn (k + 1) vs os = some r at h
        unfold C_impl_Tag_6 at h; dsimp only at h
        split at h
        · exact ⟨4000, (c_impl_Tag_6 k _ _ _ _).trans h⟩
        · cases h
    · refine ⟨fun vs os => ?_, by kernel_rfl, fun k vs os r h => ?_⟩
      · show C_impl_Tag_11.fn 0 vs os = none
        unfold C_impl_Tag_11; dsimp only; split <;> rfl
      · change C_impl_Tag_11.fn (k + 1) vs os = some r at h
        unfold C_impl_Tag_11 at h; dsimp only at h
        split at h
        · exact ⟨4000, (c_impl_Tag_11 k _ _ _ _).trans h⟩
        · cases h
  · intro args os r h
    change (S_impl_Tag k).run args os = some r at h
    unfold S_impl_Tag at h; dsimp only at h
    split at h
    · exact ⟨Nat.le_of_ble_eq_true (by kernel_rfl), rfl, k, 4000, (e_impl_Tag k _ _ _).trans h⟩
    · cases h
def laws_FnExactTag (k : Nat) (a0 : ByteArray) (a1 : ByteArray) (a2 : Int) : Option (Bool) :=
  match (decide ((a0.size : Int) > 1048576)) with
  | true =>
    some true
  | false =>
    match (decide ((a1.size : Int) > 1048576)) with
    | true =>
      some true
    | false =>
      (spec_Tag k a0 a1 a2).bind fun r1 =>
      (impl_Tag k a0 a1 a2).bind fun r2 =>
      match (!(r2.toList == r1.toList)) with
      | true =>
        some false
      | false =>
        some true
def S_laws_FnExactTag (k : Nat) : Summ K TyK where
  R := Bool
  modes := [.pe, .pe, .pe]
  run := fun args objs => match args, objs with
    | [.lit (.string v1), .lit (.string v2), .lit (.int .i64 v3)], [] => laws_FnExactTag k v1 v2 v3
    | _, _ => none
  ret := fun r => (.lit (.bool r), [])
  quiet := true
def D_laws_FnExactTag (v : V) (os : Objs K TyK) : Option (Bool) :=
  match v, os with
  | .lit (.bool v1), [] => some v1
  | _, _ => none
abbrev G_laws_FnExactTag (k : Nat) : FuncId → Option (Summ K TyK) := lookT [(8, S_spec_Tag k), (9, S_impl_Tag k)]
abbrev L_laws_FnExactTag : List (Nat × Cut K TyK (Bool)) := []
theorem e_laws_FnExactTag (k : Nat) (a0 : ByteArray) (a1 : ByteArray) (a2 : Int) : run cod T (G_laws_FnExactTag k) (lam L_laws_FnExactTag k) (cutsOf L_laws_FnExactTag) 0 (finish cod T false 0 [.tmp 6] D_laws_FnExactTag) 4000 false [.code (bodyOf Try.f4)] (envOf [0, 1, 2] [.lit (.string a0), .lit (.string a1), .lit (.int .i64 a2)]) [] = laws_FnExactTag k a0 a1 a2 := by kernel_rfl
theorem ok_laws_FnExactTag (k : Nat) : SummOk Try.prog cod 4 (S_laws_FnExactTag k) := by
  refine summ_of (T := T) Try.f4 (G_laws_FnExactTag) L_laws_FnExactTag false [.tmp 6] 0 D_laws_FnExactTag mixed (fun k => Known.of tok eok codOk ?_) (fun k => QuietOk.of ?_) Try.func4 (by kernel_rfl) (by kernel_rfl) (by kernel_rfl) (by kernel_rfl) (by kernel_rfl) ?_ ?_ ?_
  · exact all_cons (ok_spec_Tag k) (all_cons (ok_impl_Tag k) (all_nil))
  · exact all_cons (fun h r => ⟨rfl, rfl⟩) (all_cons (fun h r => ⟨rfl, rfl⟩) (all_nil))
  · intro v os r h
    unfold D_laws_FnExactTag at h
    split at h <;> first | (cases h; rfl) | cases h
  · refine all_nil
  · intro args os r h
    change (S_laws_FnExactTag k).run args os = some r at h
    unfold S_laws_FnExactTag at h; dsimp only at h
    split at h
    · exact ⟨Nat.le_of_ble_eq_true (by kernel_rfl), rfl, k, 4000, (e_laws_FnExactTag k _ _ _).trans h⟩
    · cases h
def spec_Cut_l4 : Nat → ByteArray → List DPart → Option (List DPart)
  | 0, _, _ => none
  | k + 1, x0, x1 =>
    match (decide ((x0.size : Int) > 20)) with
    | true =>
      (wnd x0.size 0 20).bind fun p1 =>
      (app 24 x1 ([(⟨(x0.extract p1.1 p1.2), false⟩ : DPart)] : List DPart)).bind fun l2 =>
      (wnd x0.size 20 (x0.size : Int)).bind fun p3 =>
      spec_Cut_l4 k (x0.extract p3.1 p3.2) l2
    | false =>
      (app 24 x1 ([(⟨x0, true⟩ : DPart)] : List DPart)).bind fun l4 =>
      some l4
def spec_Cut (k : Nat) (a0 : ByteArray) : Option (List DPart) :=
  match (decide ((a0.size : Int) > 200)) with
  | true =>
    some ([] : List DPart)
  | false =>
    spec_Cut_l4 k a0 ([] : List DPart)
def S_spec_Cut (k : Nat) : Summ K TyK where
  R := List DPart
  modes := [.bo]
  run := fun args objs => match args, objs with
    | [.lit (.string v1)], [] => spec_Cut k v1
    | _, _ => none
  ret := fun r => (.own 0, [.sl .part r])
  quiet := false
def D_spec_Cut (v : V) (os : Objs K TyK) : Option (List DPart) :=
  match v, os with
  | .own 0, [.sl .part v1] => some v1
  | _, _ => none
def C_spec_Cut_4 : Cut K TyK (List DPart) where
  slots := [0, 3]
  fn := fun k vs os => match vs, os with
    | [.lit (.string x0), .own 0], [.sl .part x1] => spec_Cut_l4 k x0 x1
    | _, _ => none
abbrev G_spec_Cut (k : Nat) : FuncId → Option (Summ K TyK) := lookT []
abbrev L_spec_Cut : List (Nat × Cut K TyK (List DPart)) := [(4, C_spec_Cut_4)]
theorem c_spec_Cut_4 (k : Nat) (x0 : ByteArray) (x1 : List DPart) : run cod T (G_spec_Cut k) (lam L_spec_Cut k) (cutsOf L_spec_Cut) 0 (finish cod T false 0 [.tmp 2] D_spec_Cut) 4000 true (todoAt 4 (bodyOf Try.f10)) (envOf [0, 3] [.lit (.string x0), .own 0]) [.sl .part x1] = spec_Cut_l4 (k + 1) x0 x1 := by kernel_rfl
theorem e_spec_Cut (k : Nat) (a0 : ByteArray) : run cod T (G_spec_Cut k) (lam L_spec_Cut k) (cutsOf L_spec_Cut) 0 (finish cod T false 0 [.tmp 2] D_spec_Cut) 4000 false [.code (bodyOf Try.f10)] (envOf [0] [.lit (.string a0)]) [] = spec_Cut k a0 := by kernel_rfl
theorem ok_spec_Cut (k : Nat) : SummOk Try.prog cod 10 (S_spec_Cut k) := by
  refine summ_of (T := T) Try.f10 (G_spec_Cut) L_spec_Cut false [.tmp 2] 0 D_spec_Cut mixed (fun k => Known.of tok eok codOk ?_) (fun k => QuietOk.of ?_) Try.func10 (by kernel_rfl) (by kernel_rfl) (by kernel_rfl) (by kernel_rfl) (by kernel_rfl) ?_ ?_ ?_
  · exact all_nil
  · exact all_nil
  · intro v os r h
    unfold D_spec_Cut at h
    split at h <;> first | (cases h; rfl) | cases h
  · refine all_cons ?_ (all_nil)
    · refine ⟨fun vs os => ?_, by kernel_rfl, fun k vs os r h => ?_⟩
      · show C_spec_Cut_4.fn 0 vs os = none
        unfold C_spec_Cut_4; dsimp only; split <;> rfl
      · change C_spec_Cut_4.fn (k + 1) vs os = some r at h
        unfold C_spec_Cut_4 at h; dsimp only at h
        split at h
        · exact ⟨4000, (c_spec_Cut_4 k _ _).trans h⟩
        · cases h
  · intro args os r h
    change (S_spec_Cut k).run args os = some r at h
    unfold S_spec_Cut at h; dsimp only at h
    split at h
    · exact ⟨Nat.le_of_ble_eq_true (by kernel_rfl), rfl, k, 4000, (e_spec_Cut k _).trans h⟩
    · cases h
def impl_Cut_l4 : Nat → ByteArray → List DPart → Option (List DPart)
  | 0, _, _ => none
  | k + 1, x0, x1 =>
    match (decide ((x0.size : Int) > 20)) with
    | true =>
      (wnd x0.size 0 20).bind fun p1 =>
      (app 24 x1 ([(⟨(x0.extract p1.1 p1.2), false⟩ : DPart)] : List DPart)).bind fun l2 =>
      (wnd x0.size 20 (x0.size : Int)).bind fun p3 =>
      impl_Cut_l4 k (x0.extract p3.1 p3.2) l2
    | false =>
      (app 24 x1 ([(⟨x0, true⟩ : DPart)] : List DPart)).bind fun l4 =>
      some l4
def impl_Cut (k : Nat) (a0 : ByteArray) : Option (List DPart) :=
  match (decide ((a0.size : Int) > 200)) with
  | true =>
    some ([] : List DPart)
  | false =>
    impl_Cut_l4 k a0 ([] : List DPart)
def S_impl_Cut (k : Nat) : Summ K TyK where
  R := List DPart
  modes := [.bo]
  run := fun args objs => match args, objs with
    | [.lit (.string v1)], [] => impl_Cut k v1
    | _, _ => none
  ret := fun r => (.own 0, [.sl .part r])
  quiet := false
def D_impl_Cut (v : V) (os : Objs K TyK) : Option (List DPart) :=
  match v, os with
  | .own 0, [.sl .part v1] => some v1
  | _, _ => none
def C_impl_Cut_4 : Cut K TyK (List DPart) where
  slots := [0, 3]
  fn := fun k vs os => match vs, os with
    | [.lit (.string x0), .own 0], [.sl .part x1] => impl_Cut_l4 k x0 x1
    | _, _ => none
abbrev G_impl_Cut (k : Nat) : FuncId → Option (Summ K TyK) := lookT []
abbrev L_impl_Cut : List (Nat × Cut K TyK (List DPart)) := [(4, C_impl_Cut_4)]
theorem c_impl_Cut_4 (k : Nat) (x0 : ByteArray) (x1 : List DPart) : run cod T (G_impl_Cut k) (lam L_impl_Cut k) (cutsOf L_impl_Cut) 0 (finish cod T false 0 [.tmp 2] D_impl_Cut) 4000 true (todoAt 4 (bodyOf Try.f11)) (envOf [0, 3] [.lit (.string x0), .own 0]) [.sl .part x1] = impl_Cut_l4 (k + 1) x0 x1 := by kernel_rfl
theorem e_impl_Cut (k : Nat) (a0 : ByteArray) : run cod T (G_impl_Cut k) (lam L_impl_Cut k) (cutsOf L_impl_Cut) 0 (finish cod T false 0 [.tmp 2] D_impl_Cut) 4000 false [.code (bodyOf Try.f11)] (envOf [0] [.lit (.string a0)]) [] = impl_Cut k a0 := by kernel_rfl
theorem ok_impl_Cut (k : Nat) : SummOk Try.prog cod 11 (S_impl_Cut k) := by
  refine summ_of (T := T) Try.f11 (G_impl_Cut) L_impl_Cut false [.tmp 2] 0 D_impl_Cut mixed (fun k => Known.of tok eok codOk ?_) (fun k => QuietOk.of ?_) Try.func11 (by kernel_rfl) (by kernel_rfl) (by kernel_rfl) (by kernel_rfl) (by kernel_rfl) ?_ ?_ ?_
  · exact all_nil
  · exact all_nil
  · intro v os r h
    unfold D_impl_Cut at h
    split at h <;> first | (cases h; rfl) | cases h
  · refine all_cons ?_ (all_nil)
    · refine ⟨fun vs os => ?_, by kernel_rfl, fun k vs os r h => ?_⟩
      · show C_impl_Cut_4.fn 0 vs os = none
        unfold C_impl_Cut_4; dsimp only; split <;> rfl
      · change C_impl_Cut_4.fn (k + 1) vs os = some r at h
        unfold C_impl_Cut_4 at h; dsimp only at h
        split at h
        · exact ⟨4000, (c_impl_Cut_4 k _ _).trans h⟩
        · cases h
  · intro args os r h
    change (S_impl_Cut k).run args os = some r at h
    unfold S_impl_Cut at h; dsimp only at h
    split at h
    · exact ⟨Nat.le_of_ble_eq_true (by kernel_rfl), rfl, k, 4000, (e_impl_Cut k _).trans h⟩
    · cases h
def laws_eqPart (k : Nat) (a0 : DPart) (a1 : DPart) : Option (Bool) :=
  match (!(a0.Text.toList == a1.Text.toList)) with
  | true =>
    some false
  | false =>
    match (!(a0.Last == a1.Last)) with
    | true =>
      some false
    | false =>
      some true
def S_laws_eqPart (k : Nat) : Summ K TyK where
  R := Bool
  modes := [.bo, .bo]
  run := fun args objs => match args, objs with
    | [.agg [.lit (.string v1), .lit (.bool v2)], .agg [.lit (.string v3), .lit (.bool v4)]], [] => laws_eqPart k (⟨v1, v2⟩ : DPart) (⟨v3, v4⟩ : DPart)
    | _, _ => none
  ret := fun r => (.lit (.bool r), [])
  quiet := true
def D_laws_eqPart (v : V) (os : Objs K TyK) : Option (Bool) :=
  match v, os with
  | .lit (.bool v1), [] => some v1
  | _, _ => none
abbrev G_laws_eqPart (k : Nat) : FuncId → Option (Summ K TyK) := lookT []
abbrev L_laws_eqPart : List (Nat × Cut K TyK (Bool)) := []
theorem e_laws_eqPart (k : Nat) (a0 : DPart) (a1 : DPart) : run cod T (G_laws_eqPart k) (lam L_laws_eqPart k) (cutsOf L_laws_eqPart) 0 (finish cod T false 0 [.tmp 4] D_laws_eqPart) 4000 false [.code (bodyOf Try.f25)] (envOf [0, 1] [.agg [.lit (.string a0.Text), .lit (.bool a0.Last)], .agg [.lit (.string a1.Text), .lit (.bool a1.Last)]]) [] = laws_eqPart k a0 a1 := by kernel_rfl
theorem ok_laws_eqPart (k : Nat) : SummOk Try.prog cod 25 (S_laws_eqPart k) := by
  refine summ_of (T := T) Try.f25 (G_laws_eqPart) L_laws_eqPart false [.tmp 4] 0 D_laws_eqPart mixed (fun k => Known.of tok eok codOk ?_) (fun k => QuietOk.of ?_) Try.func25 (by kernel_rfl) (by kernel_rfl) (by kernel_rfl) (by kernel_rfl) (by kernel_rfl) ?_ ?_ ?_
  · exact all_nil
  · exact all_nil
  · intro v os r h
    unfold D_laws_eqPart at h
    split at h <;> first | (cases h; rfl) | cases h
  · refine all_nil
  · intro args os r h
    change (S_laws_eqPart k).run args os = some r at h
    unfold S_laws_eqPart at h; dsimp only at h
    split at h
    · exact ⟨Nat.le_of_ble_eq_true (by kernel_rfl), rfl, k, 4000, (e_laws_eqPart k ⟨_, _⟩ ⟨_, _⟩).trans h⟩
    · cases h
def laws_eqPartS_l4 : Nat → List DPart → List DPart → Int → Option (Bool)
  | 0, _, _, _ => none
  | k + 1, x0, x1, x2 =>
    match (decide (x2 < (x0.length : Int))) with
    | true =>
      (idx x0 x2).bind fun y1 =>
      (idx x1 x2).bind fun y2 =>
      (laws_eqPart k y1 y2).bind fun r3 =>
      match (!r3) with
      | true =>
        some false
      | false =>
        laws_eqPartS_l4 k x0 x1 (IntKind.wrap .i64 (x2 + 1))
    | false =>
      some true
def laws_eqPartS (k : Nat) (a0 : List DPart) (a1 : List DPart) : Option (Bool) :=
  match ((a0.length : Int) != (a1.length : Int)) with
  | true =>
    some false
  | false =>
    laws_eqPartS_l4 k a0 a1 0
def S_laws_eqPartS (k : Nat) : Summ K TyK where
  R := Bool
  modes := [.bo, .bo]
  run := fun args objs => match args, objs with
    | [.inl true .part v1, .inl true .part v2], [] => laws_eqPartS k v1 v2
    | _, _ => none
  ret := fun r => (.lit (.bool r), [])
  quiet := true
def D_laws_eqPartS (v : V) (os : Objs K TyK) : Option (Bool) :=
  match v, os with
  | .lit (.bool v1), [] => some v1
  | _, _ => none
def C_laws_eqPartS_4 : Cut K TyK (Bool) where
  slots := [0, 1, 5]
  fn := fun k vs os => match vs, os with
    | [.inl true .part x0, .inl true .part x1, .lit (.int .i64 x2)], [] => laws_eqPartS_l4 k x0 x1 x2
    | _, _ => none
abbrev G_laws_eqPartS (k : Nat) : FuncId → Option (Summ K TyK) := lookT [(25, S_laws_eqPart k)]
abbrev L_laws_eqPartS : List (Nat × Cut K TyK (Bool)) := [(4, C_laws_eqPartS_4)]
theorem c_laws_eqPartS_4 (k : Nat) (x0 : List DPart) (x1 : List DPart) (x2 : Int) : run cod T (G_laws_eqPartS k) (lam L_laws_eqPartS k) (cutsOf L_laws_eqPartS) 0 (finish cod T false 0 [.tmp 4] D_laws_eqPartS) 4000 true (todoAt 4 (bodyOf Try.f12)) (envOf [0, 1, 5] [.inl true .part x0, .inl true .part x1, .lit (.int .i64 x2)]) [] = laws_eqPartS_l4 (k + 1) x0 x1 x2 := by kernel_rfl
theorem e_laws_eqPartS (k : Nat) (a0 : List DPart) (a1 : List DPart) : run cod T (G_laws_eqPartS k) (lam L_laws_eqPartS k) (cutsOf L_laws_eqPartS) 0 (finish cod T false 0 [.tmp 4] D_laws_eqPartS) 4000 false [.code (bodyOf Try.f12)] (envOf [0, 1] [.inl true .part a0, .inl true .part a1]) [] = laws_eqPartS k a0 a1 := by kernel_rfl
theorem ok_laws_eqPartS (k : Nat) : SummOk Try.prog cod 12 (S_laws_eqPartS k) := by
  refine summ_of (T := T) Try.f12 (G_laws_eqPartS) L_laws_eqPartS false [.tmp 4] 0 D_laws_eqPartS mixed (fun k => Known.of tok eok codOk ?_) (fun k => QuietOk.of ?_) Try.func12 (by kernel_rfl) (by kernel_rfl) (by kernel_rfl) (by kernel_rfl) (by kernel_rfl) ?_ ?_ ?_
  · exact all_cons (ok_laws_eqPart k) (all_nil)
  · exact all_cons (fun h r => ⟨rfl, rfl⟩) (all_nil)
  · intro v os r h
    unfold D_laws_eqPartS at h
    split at h <;> first | (cases h; rfl) | cases h
  · refine all_cons ?_ (all_nil)
    · refine ⟨fun vs os => ?_, by kernel_rfl, fun k vs os r h => ?_⟩
      · show C_laws_eqPartS_4.fn 0 vs os = none
        unfold C_laws_eqPartS_4; dsimp only; split <;> rfl
      · change C_laws_eqPartS_4.fn (k + 1) vs os = some r at h
        unfold C_laws_eqPartS_4 at h; dsimp only at h
        split at h
        · exact ⟨4000, (c_laws_eqPartS_4 k _ _ _).trans h⟩
        · cases h
  · intro args os r h
    change (S_laws_eqPartS k).run args os = some r at h
    unfold S_laws_eqPartS at h; dsimp only at h
    split at h
    · exact ⟨Nat.le_of_ble_eq_true (by kernel_rfl), rfl, k, 4000, (e_laws_eqPartS k _ _).trans h⟩
    · cases h
def laws_markText_l4 : Nat → Int → ByteArray → Option (ByteArray)
  | 0, _, _ => none
  | k + 1, x0, x1 =>
    match (decide (x0 > 0)) with
    | true =>
      (qrem x0 10).bind fun q1 =>
      (sadd (bstr ([(IntKind.wrap .u8 (IntKind.wrap .i64 (48 + q1)))] : List Int)) x1).bind fun t2 =>
      (qdiv x0 10).bind fun q3 =>
      laws_markText_l4 k (IntKind.wrap .i64 (q3)) t2
    | false =>
      (sadd (⟨#[109]⟩ : ByteArray) x1).bind fun t4 =>
      some t4
def laws_markText (k : Nat) (a0 : Int) : Option (ByteArray) :=
  match (decide (a0 ≤ 0)) with
  | true =>
    some (⟨#[109, 48]⟩ : ByteArray)
  | false =>
    laws_markText_l4 k a0 (⟨#[]⟩ : ByteArray)
def S_laws_markText (k : Nat) : Summ K TyK where
  R := ByteArray
  modes := [.bo]
  run := fun args objs => match args, objs with
    | [.lit (.int .i64 v1)], [] => laws_markText k v1
    | _, _ => none
  ret := fun r => (.lit (.string r), [])
  quiet := true
def D_laws_markText (v : V) (os : Objs K TyK) : Option (ByteArray) :=
  match v, os with
  | .lit (.string v1), [] => some v1
  | _, _ => none
def C_laws_markText_4 : Cut K TyK (ByteArray) where
  slots := [0, 3]
  fn := fun k vs os => match vs, os with
    | [.lit (.int .i64 x0), .lit (.string x1)], [] => laws_markText_l4 k x0 x1
    | _, _ => none
abbrev G_laws_markText (k : Nat) : FuncId → Option (Summ K TyK) := lookT []
abbrev L_laws_markText : List (Nat × Cut K TyK (ByteArray)) := [(4, C_laws_markText_4)]
theorem c_laws_markText_4 (k : Nat) (x0 : Int) (x1 : ByteArray) : run cod T (G_laws_markText k) (lam L_laws_markText k) (cutsOf L_laws_markText) 0 (finish cod T false 0 [.tmp 2] D_laws_markText) 4000 true (todoAt 4 (bodyOf Try.f26)) (envOf [0, 3] [.lit (.int .i64 x0), .lit (.string x1)]) [] = laws_markText_l4 (k + 1) x0 x1 := by kernel_rfl
theorem e_laws_markText (k : Nat) (a0 : Int) : run cod T (G_laws_markText k) (lam L_laws_markText k) (cutsOf L_laws_markText) 0 (finish cod T false 0 [.tmp 2] D_laws_markText) 4000 false [.code (bodyOf Try.f26)] (envOf [0] [.lit (.int .i64 a0)]) [] = laws_markText k a0 := by kernel_rfl
theorem ok_laws_markText (k : Nat) : SummOk Try.prog cod 26 (S_laws_markText k) := by
  refine summ_of (T := T) Try.f26 (G_laws_markText) L_laws_markText false [.tmp 2] 0 D_laws_markText mixed (fun k => Known.of tok eok codOk ?_) (fun k => QuietOk.of ?_) Try.func26 (by kernel_rfl) (by kernel_rfl) (by kernel_rfl) (by kernel_rfl) (by kernel_rfl) ?_ ?_ ?_
  · exact all_nil
  · exact all_nil
  · intro v os r h
    unfold D_laws_markText at h
    split at h <;> first | (cases h; rfl) | cases h
  · refine all_cons ?_ (all_nil)
    · refine ⟨fun vs os => ?_, by kernel_rfl, fun k vs os r h => ?_⟩
      · show C_laws_markText_4.fn 0 vs os = none
        unfold C_laws_markText_4; dsimp only; split <;> rfl
      · change C_laws_markText_4.fn (k + 1) vs os = some r at h
        unfold C_laws_markText_4 at h; dsimp only at h
        split at h
        · exact ⟨4000, (c_laws_markText_4 k _ _).trans h⟩
        · cases h
  · intro args os r h
    change (S_laws_markText k).run args os = some r at h
    unfold S_laws_markText at h; dsimp only at h
    split at h
    · exact ⟨Nat.le_of_ble_eq_true (by kernel_rfl), rfl, k, 4000, (e_laws_markText k _).trans h⟩
    · cases h
def laws_markPartS_l2 : Nat → Int → Int → List DPart → Option (Int × List DPart)
  | 0, _, _, _ => none
  | k + 1, x0, x1, x2 =>
    match (decide (x1 < (x2.length : Int))) with
    | true =>
      (laws_markText k x0).bind fun r1 =>
      (idx x2 x1).bind fun _ =>
      (x2[(Int.toNat x1)]?).bind fun y2 =>
      (qrem (IntKind.wrap .i64 (x0 + 1)) 3).bind fun q3 =>
      (idx (x2.set (Int.toNat x1) (⟨r1, y2.Last⟩ : DPart)) x1).bind fun _ =>
      ((x2.set (Int.toNat x1) (⟨r1, y2.Last⟩ : DPart))[(Int.toNat x1)]?).bind fun y4 =>
      laws_markPartS_l2 k (IntKind.wrap .i64 ((IntKind.wrap .i64 (x0 + 1)) + 1)) (IntKind.wrap .i64 (x1 + 1)) ((x2.set (Int.toNat x1) (⟨r1, y2.Last⟩ : DPart)).set (Int.toNat x1) (⟨y4.Text, (q3 == 0)⟩ : DPart))
    | false =>
      some (x0, x2)
def laws_markPartS (k : Nat) (a0 : List DPart) (a1 : Int) : Option (Int × List DPart) :=
  laws_markPartS_l2 k a1 0 a0
def S_laws_markPartS (k : Nat) : Summ K TyK where
  R := Int × List DPart
  modes := [.mv, .mv]
  run := fun args objs => match args, objs with
    | [.own 0, .lit (.int .i64 v1)], [.sl .part v2] => laws_markPartS k v2 v1
    | _, _ => none
  ret := fun r => (.lit (.int .i64 r.1), [.sl .part r.2])
  quiet := false
def D_laws_markPartS (v : V) (os : Objs K TyK) : Option (Int × List DPart) :=
  match v, os with
  | .lit (.int .i64 v1), [.sl .part v2] => some (v1, v2)
  | _, _ => none
def C_laws_markPartS_2 : Cut K TyK (Int × List DPart) where
  slots := [0, 1, 5]
  fn := fun k vs os => match vs, os with
    | [.own 0, .lit (.int .i64 x0), .lit (.int .i64 x1)], [.sl .part x2] => laws_markPartS_l2 k x0 x1 x2
    | _, _ => none
abbrev G_laws_markPartS (k : Nat) : FuncId → Option (Summ K TyK) := lookT [(26, S_laws_markText k)]
abbrev L_laws_markPartS : List (Nat × Cut K TyK (Int × List DPart)) := [(2, C_laws_markPartS_2)]
theorem c_laws_markPartS_2 (k : Nat) (x0 : Int) (x1 : Int) (x2 : List DPart) : run cod T (G_laws_markPartS k) (lam L_laws_markPartS k) (cutsOf L_laws_markPartS) 1 (finish cod T false 1 [.tmp 4] D_laws_markPartS) 4000 true (todoAt 2 (bodyOf Try.f13)) (envOf [0, 1, 5] [.own 0, .lit (.int .i64 x0), .lit (.int .i64 x1)]) [.sl .part x2] = laws_markPartS_l2 (k + 1) x0 x1 x2 := by kernel_rfl
theorem e_laws_markPartS (k : Nat) (a0 : List DPart) (a1 : Int) : run cod T (G_laws_markPartS k) (lam L_laws_markPartS k) (cutsOf L_laws_markPartS) 1 (finish cod T false 1 [.tmp 4] D_laws_markPartS) 4000 false [.code (bodyOf Try.f13)] (envOf [0, 1] [.own 0, .lit (.int .i64 a1)]) [.sl .part a0] = laws_markPartS k a0 a1 := by kernel_rfl
theorem ok_laws_markPartS (k : Nat) : SummOk Try.prog cod 13 (S_laws_markPartS k) := by
  refine summ_of (T := T) Try.f13 (G_laws_markPartS) L_laws_markPartS false [.tmp 4] 1 D_laws_markPartS mixed (fun k => Known.of tok eok codOk ?_) (fun k => QuietOk.of ?_) Try.func13 (by kernel_rfl) (by kernel_rfl) (by kernel_rfl) (by kernel_rfl) (by kernel_rfl) ?_ ?_ ?_
  · exact all_cons (ok_laws_markText k) (all_nil)
  · exact all_cons (fun h r => ⟨rfl, rfl⟩) (all_nil)
  · intro v os r h
    unfold D_laws_markPartS at h
    split at h <;> first | (cases h; rfl) | cases h
  · refine all_cons ?_ (all_nil)
    · refine ⟨fun vs os => ?_, by kernel_rfl, fun k vs os r h => ?_⟩
      · show C_laws_markPartS_2.fn 0 vs os = none
        unfold C_laws_markPartS_2; dsimp only; split <;> rfl
      · change C_laws_markPartS_2.fn (k + 1) vs os = some r at h
        unfold C_laws_markPartS_2 at h; dsimp only at h
        split at h
        · exact ⟨4000, (c_laws_markPartS_2 k _ _ _).trans h⟩
        · cases h
  · intro args os r h
    change (S_laws_markPartS k).run args os = some r at h
    unfold S_laws_markPartS at h; dsimp only at h
    split at h
    · exact ⟨Nat.le_of_ble_eq_true (by kernel_rfl), rfl, k, 4000, (e_laws_markPartS k _ _).trans h⟩
    · cases h
def laws_heldPartS_l2 : Nat → List DPart → Int → Int → Option (Int)
  | 0, _, _, _ => none
  | k + 1, x0, x1, x2 =>
    match (decide (x2 < (x0.length : Int))) with
    | true =>
      (idx x0 x2).bind fun y1 =>
      (laws_markText k x1).bind fun r2 =>
      match (!(y1.Text.toList == r2.toList)) with
      | true =>
        some (-1)
      | false =>
        (idx x0 x2).bind fun y3 =>
        (qrem (IntKind.wrap .i64 (x1 + 1)) 3).bind fun q4 =>
        match (!(y3.Last == (q4 == 0))) with
        | true =>
          some (-1)
        | false =>
          laws_heldPartS_l2 k x0 (IntKind.wrap .i64 ((IntKind.wrap .i64 (x1 + 1)) + 1)) (IntKind.wrap .i64 (x2 + 1))
    | false =>
      some x1
def laws_heldPartS (k : Nat) (a0 : List DPart) (a1 : Int) : Option (Int) :=
  laws_heldPartS_l2 k a0 a1 0
def S_laws_heldPartS (k : Nat) : Summ K TyK where
  R := Int
  modes := [.bo, .bo]
  run := fun args objs => match args, objs with
    | [.inl true .part v1, .lit (.int .i64 v2)], [] => laws_heldPartS k v1 v2
    | _, _ => none
  ret := fun r => (.lit (.int .i64 r), [])
  quiet := true
def D_laws_heldPartS (v : V) (os : Objs K TyK) : Option (Int) :=
  match v, os with
  | .lit (.int .i64 v1), [] => some v1
  | _, _ => none
def C_laws_heldPartS_2 : Cut K TyK (Int) where
  slots := [0, 1, 5]
  fn := fun k vs os => match vs, os with
    | [.inl true .part x0, .lit (.int .i64 x1), .lit (.int .i64 x2)], [] => laws_heldPartS_l2 k x0 x1 x2
    | _, _ => none
abbrev G_laws_heldPartS (k : Nat) : FuncId → Option (Summ K TyK) := lookT [(26, S_laws_markText k)]
abbrev L_laws_heldPartS : List (Nat × Cut K TyK (Int)) := [(2, C_laws_heldPartS_2)]
theorem c_laws_heldPartS_2 (k : Nat) (x0 : List DPart) (x1 : Int) (x2 : Int) : run cod T (G_laws_heldPartS k) (lam L_laws_heldPartS k) (cutsOf L_laws_heldPartS) 0 (finish cod T false 0 [.tmp 4] D_laws_heldPartS) 4000 true (todoAt 2 (bodyOf Try.f14)) (envOf [0, 1, 5] [.inl true .part x0, .lit (.int .i64 x1), .lit (.int .i64 x2)]) [] = laws_heldPartS_l2 (k + 1) x0 x1 x2 := by kernel_rfl
theorem e_laws_heldPartS (k : Nat) (a0 : List DPart) (a1 : Int) : run cod T (G_laws_heldPartS k) (lam L_laws_heldPartS k) (cutsOf L_laws_heldPartS) 0 (finish cod T false 0 [.tmp 4] D_laws_heldPartS) 4000 false [.code (bodyOf Try.f14)] (envOf [0, 1] [.inl true .part a0, .lit (.int .i64 a1)]) [] = laws_heldPartS k a0 a1 := by kernel_rfl
theorem ok_laws_heldPartS (k : Nat) : SummOk Try.prog cod 14 (S_laws_heldPartS k) := by
  refine summ_of (T := T) Try.f14 (G_laws_heldPartS) L_laws_heldPartS false [.tmp 4] 0 D_laws_heldPartS mixed (fun k => Known.of tok eok codOk ?_) (fun k => QuietOk.of ?_) Try.func14 (by kernel_rfl) (by kernel_rfl) (by kernel_rfl) (by kernel_rfl) (by kernel_rfl) ?_ ?_ ?_
  · exact all_cons (ok_laws_markText k) (all_nil)
  · exact all_cons (fun h r => ⟨rfl, rfl⟩) (all_nil)
  · intro v os r h
    unfold D_laws_heldPartS at h
    split at h <;> first | (cases h; rfl) | cases h
  · refine all_cons ?_ (all_nil)
    · refine ⟨fun vs os => ?_, by kernel_rfl, fun k vs os r h => ?_⟩
      · show C_laws_heldPartS_2.fn 0 vs os = none
        unfold C_laws_heldPartS_2; dsimp only; split <;> rfl
      · change C_laws_heldPartS_2.fn (k + 1) vs os = some r at h
        unfold C_laws_heldPartS_2 at h; dsimp only at h
        split at h
        · exact ⟨4000, (c_laws_heldPartS_2 k _ _ _).trans h⟩
        · cases h
  · intro args os r h
    change (S_laws_heldPartS k).run args os = some r at h
    unfold S_laws_heldPartS at h; dsimp only at h
    split at h
    · exact ⟨Nat.le_of_ble_eq_true (by kernel_rfl), rfl, k, 4000, (e_laws_heldPartS k _ _).trans h⟩
    · cases h
def laws_FnExactCut (k : Nat) (a0 : ByteArray) : Option (Bool) :=
  match (decide ((a0.size : Int) > 1048576)) with
  | true =>
    some true
  | false =>
    (spec_Cut k a0).bind fun r1 =>
    (impl_Cut k a0).bind fun r2 =>
    (laws_eqPartS k r2 r1).bind fun r3 =>
    match (!r3) with
    | true =>
      some false
    | false =>
      (laws_markPartS k r2 1).bind fun r4 =>
      (laws_heldPartS k r4.2 1).bind fun r5 =>
      match (decide (r5 < 0)) with
      | true =>
        some false
      | false =>
        match (r5 != r4.1) with
        | true =>
          some false
        | false =>
          (impl_Cut k a0).bind fun r6 =>
          (laws_eqPartS k r6 r1).bind fun r7 =>
          match (!r7) with
          | true =>
            some false
          | false =>
            (laws_heldPartS k r4.2 1).bind fun r8 =>
            match (decide (r8 < 0)) with
            | true =>
              some false
            | false =>
              match (r8 != r4.1) with
              | true =>
                some false
              | false =>
                some true
def S_laws_FnExactCut (k : Nat) : Summ K TyK where
  R := Bool
  modes := [.pe]
  run := fun args objs => match args, objs with
    | [.lit (.string v1)], [] => laws_FnExactCut k v1
    | _, _ => none
  ret := fun r => (.lit (.bool r), [])
  quiet := true
def D_laws_FnExactCut (v : V) (os : Objs K TyK) : Option (Bool) :=
  match v, os with
  | .lit (.bool v1), [] => some v1
  | _, _ => none
abbrev G_laws_FnExactCut (k : Nat) : FuncId → Option (Summ K TyK) := lookT [(10, S_spec_Cut k), (11, S_impl_Cut k), (12, S_laws_eqPartS k), (13, S_laws_markPartS k), (14, S_laws_heldPartS k)]
abbrev L_laws_FnExactCut : List (Nat × Cut K TyK (Bool)) := []
theorem e_laws_FnExactCut (k : Nat) (a0 : ByteArray) : run cod T (G_laws_FnExactCut k) (lam L_laws_FnExactCut k) (cutsOf L_laws_FnExactCut) 0 (finish cod T false 0 [.tmp 2] D_laws_FnExactCut) 4000 false [.code (bodyOf Try.f5)] (envOf [0] [.lit (.string a0)]) [] = laws_FnExactCut k a0 := by kernel_rfl
theorem ok_laws_FnExactCut (k : Nat) : SummOk Try.prog cod 5 (S_laws_FnExactCut k) := by
  refine summ_of (T := T) Try.f5 (G_laws_FnExactCut) L_laws_FnExactCut false [.tmp 2] 0 D_laws_FnExactCut mixed (fun k => Known.of tok eok codOk ?_) (fun k => QuietOk.of ?_) Try.func5 (by kernel_rfl) (by kernel_rfl) (by kernel_rfl) (by kernel_rfl) (by kernel_rfl) ?_ ?_ ?_
  · exact all_cons (ok_spec_Cut k) (all_cons (ok_impl_Cut k) (all_cons (ok_laws_eqPartS k) (all_cons (ok_laws_markPartS k) (all_cons (ok_laws_heldPartS k) (all_nil)))))
  · exact all_cons (fun h r => by cases h) (all_cons (fun h r => by cases h) (all_cons (fun h r => ⟨rfl, rfl⟩) (all_cons (fun h r => by cases h) (all_cons (fun h r => ⟨rfl, rfl⟩) (all_nil)))))
  · intro v os r h
    unfold D_laws_FnExactCut at h
    split at h <;> first | (cases h; rfl) | cases h
  · refine all_nil
  · intro args os r h
    change (S_laws_FnExactCut k).run args os = some r at h
    unfold S_laws_FnExactCut at h; dsimp only at h
    split at h
    · exact ⟨Nat.le_of_ble_eq_true (by kernel_rfl), rfl, k, 4000, (e_laws_FnExactCut k _).trans h⟩
    · cases h
def laws_szPart (k : Nat) (a0 : DPart) (a1 : Int) : Option (Int) :=
  match (decide ((IntKind.wrap .i64 (a1 - (a0.Text.size : Int))) < 0)) with
  | true =>
    some (-1)
  | false =>
    some (IntKind.wrap .i64 (a1 - (a0.Text.size : Int)))
def S_laws_szPart (k : Nat) : Summ K TyK where
  R := Int
  modes := [.bo, .bo]
  run := fun args objs => match args, objs with
    | [.agg [.lit (.string v1), .lit (.bool v2)], .lit (.int .i64 v3)], [] => laws_szPart k (⟨v1, v2⟩ : DPart) v3
    | _, _ => none
  ret := fun r => (.lit (.int .i64 r), [])
  quiet := true
def D_laws_szPart (v : V) (os : Objs K TyK) : Option (Int) :=
  match v, os with
  | .lit (.int .i64 v1), [] => some v1
  | _, _ => none
abbrev G_laws_szPart (k : Nat) : FuncId → Option (Summ K TyK) := lookT []
abbrev L_laws_szPart : List (Nat × Cut K TyK (Int)) := []
theorem e_laws_szPart (k : Nat) (a0 : DPart) (a1 : Int) : run cod T (G_laws_szPart k) (lam L_laws_szPart k) (cutsOf L_laws_szPart) 0 (finish cod T false 0 [.tmp 4] D_laws_szPart) 4000 false [.code (bodyOf Try.f39)] (envOf [0, 1] [.agg [.lit (.string a0.Text), .lit (.bool a0.Last)], .lit (.int .i64 a1)]) [] = laws_szPart k a0 a1 := by kernel_rfl
theorem ok_laws_szPart (k : Nat) : SummOk Try.prog cod 39 (S_laws_szPart k) := by
  refine summ_of (T := T) Try.f39 (G_laws_szPart) L_laws_szPart false [.tmp 4] 0 D_laws_szPart mixed (fun k => Known.of tok eok codOk ?_) (fun k => QuietOk.of ?_) Try.func39 (by kernel_rfl) (by kernel_rfl) (by kernel_rfl) (by kernel_rfl) (by kernel_rfl) ?_ ?_ ?_
  · exact all_nil
  · exact all_nil
  · intro v os r h
    unfold D_laws_szPart at h
    split at h <;> first | (cases h; rfl) | cases h
  · refine all_nil
  · intro args os r h
    change (S_laws_szPart k).run args os = some r at h
    unfold S_laws_szPart at h; dsimp only at h
    split at h
    · exact ⟨Nat.le_of_ble_eq_true (by kernel_rfl), rfl, k, 4000, (e_laws_szPart k ⟨_, _⟩ _).trans h⟩
    · cases h
def laws_szItem (k : Nat) (a0 : DItem) (a1 : Int) : Option (Int) :=
  (laws_szPart k a0.Part a1).bind fun r1 =>
  match (decide (r1 < 0)) with
  | true =>
    some (-1)
  | false =>
    some r1
def S_laws_szItem (k : Nat) : Summ K TyK where
  R := Int
  modes := [.bo, .bo]
  run := fun args objs => match args, objs with
    | [.agg [.lit (.string v1), .lit (.bool v2), .lit (.bool v3), .lit (.int .i64 v4)], .lit (.int .i64 v5)], [] => laws_szItem k (⟨(⟨v1, v2⟩ : DPart), v3, v4⟩ : DItem) v5
    | _, _ => none
  ret := fun r => (.lit (.int .i64 r), [])
  quiet := true
def D_laws_szItem (v : V) (os : Objs K TyK) : Option (Int) :=
  match v, os with
  | .lit (.int .i64 v1), [] => some v1
  | _, _ => none
abbrev G_laws_szItem (k : Nat) : FuncId → Option (Summ K TyK) := lookT [(39, S_laws_szPart k)]
abbrev L_laws_szItem : List (Nat × Cut K TyK (Int)) := []
theorem e_laws_szItem (k : Nat) (a0 : DItem) (a1 : Int) : run cod T (G_laws_szItem k) (lam L_laws_szItem k) (cutsOf L_laws_szItem) 0 (finish cod T false 0 [.tmp 4] D_laws_szItem) 4000 false [.code (bodyOf Try.f35)] (envOf [0, 1] [.agg [.lit (.string a0.Part.Text), .lit (.bool a0.Part.Last), .lit (.bool a0.Has), .lit (.int .i64 a0.Since)], .lit (.int .i64 a1)]) [] = laws_szItem k a0 a1 := by kernel_rfl
theorem ok_laws_szItem (k : Nat) : SummOk Try.prog cod 35 (S_laws_szItem k) := by
  refine summ_of (T := T) Try.f35 (G_laws_szItem) L_laws_szItem false [.tmp 4] 0 D_laws_szItem mixed (fun k => Known.of tok eok codOk ?_) (fun k => QuietOk.of ?_) Try.func35 (by kernel_rfl) (by kernel_rfl) (by kernel_rfl) (by kernel_rfl) (by kernel_rfl) ?_ ?_ ?_
  · exact all_cons (ok_laws_szPart k) (all_nil)
  · exact all_cons (fun h r => ⟨rfl, rfl⟩) (all_nil)
  · intro v os r h
    unfold D_laws_szItem at h
    split at h <;> first | (cases h; rfl) | cases h
  · refine all_nil
  · intro args os r h
    change (S_laws_szItem k).run args os = some r at h
    unfold S_laws_szItem at h; dsimp only at h
    split at h
    · exact ⟨Nat.le_of_ble_eq_true (by kernel_rfl), rfl, k, 4000, (e_laws_szItem k ⟨⟨_, _⟩, _, _⟩ _).trans h⟩
    · cases h
def laws_szItemS_l5 : Nat → List DItem → Int → Int → Option (Int)
  | 0, _, _, _ => none
  | k + 1, x0, x1, x2 =>
    match (decide (x2 < (x0.length : Int))) with
    | true =>
      (idx x0 x2).bind fun y1 =>
      (laws_szItem k y1 x1).bind fun r2 =>
      match (decide (r2 < 0)) with
      | true =>
        some (-1)
      | false =>
        laws_szItemS_l5 k x0 r2 (IntKind.wrap .i64 (x2 + 1))
    | false =>
      some x1
def laws_szItemS (k : Nat) (a0 : List DItem) (a1 : Int) : Option (Int) :=
  match (decide ((IntKind.wrap .i64 (a1 - (a0.length : Int))) < 0)) with
  | true =>
    some (-1)
  | false =>
    laws_szItemS_l5 k a0 (IntKind.wrap .i64 (a1 - (a0.length : Int))) 0
def S_laws_szItemS (k : Nat) : Summ K TyK where
  R := Int
  modes := [.bo, .bo]
  run := fun args objs => match args, objs with
    | [.inl true .item v1, .lit (.int .i64 v2)], [] => laws_szItemS k v1 v2
    | _, _ => none
  ret := fun r => (.lit (.int .i64 r), [])
  quiet := true
def D_laws_szItemS (v : V) (os : Objs K TyK) : Option (Int) :=
  match v, os with
  | .lit (.int .i64 v1), [] => some v1
  | _, _ => none
def C_laws_szItemS_5 : Cut K TyK (Int) where
  slots := [0, 1, 5]
  fn := fun k vs os => match vs, os with
    | [.inl true .item x0, .lit (.int .i64 x1), .lit (.int .i64 x2)], [] => laws_szItemS_l5 k x0 x1 x2
    | _, _ => none
abbrev G_laws_szItemS (k : Nat) : FuncId → Option (Summ K TyK) := lookT [(35, S_laws_szItem k)]
abbrev L_laws_szItemS : List (Nat × Cut K TyK (Int)) := [(5, C_laws_szItemS_5)]
theorem c_laws_szItemS_5 (k : Nat) (x0 : List DItem) (x1 : Int) (x2 : Int) : run cod T (G_laws_szItemS k) (lam L_laws_szItemS k) (cutsOf L_laws_szItemS) 0 (finish cod T false 0 [.tmp 4] D_laws_szItemS) 4000 true (todoAt 5 (bodyOf Try.f27)) (envOf [0, 1, 5] [.inl true .item x0, .lit (.int .i64 x1), .lit (.int .i64 x2)]) [] = laws_szItemS_l5 (k + 1) x0 x1 x2 := by kernel_rfl
theorem e_laws_szItemS (k : Nat) (a0 : List DItem) (a1 : Int) : run cod T (G_laws_szItemS k) (lam L_laws_szItemS k) (cutsOf L_laws_szItemS) 0 (finish cod T false 0 [.tmp 4] D_laws_szItemS) 4000 false [.code (bodyOf Try.f27)] (envOf [0, 1] [.inl true .item a0, .lit (.int .i64 a1)]) [] = laws_szItemS k a0 a1 := by kernel_rfl
theorem ok_laws_szItemS (k : Nat) : SummOk Try.prog cod 27 (S_laws_szItemS k) := by
  refine summ_of (T := T) Try.f27 (G_laws_szItemS) L_laws_szItemS false [.tmp 4] 0 D_laws_szItemS mixed (fun k => Known.of tok eok codOk ?_) (fun k => QuietOk.of ?_) Try.func27 (by kernel_rfl) (by kernel_rfl) (by kernel_rfl) (by kernel_rfl) (by kernel_rfl) ?_ ?_ ?_
  · exact all_cons (ok_laws_szItem k) (all_nil)
  · exact all_cons (fun h r => ⟨rfl, rfl⟩) (all_nil)
  · intro v os r h
    unfold D_laws_szItemS at h
    split at h <;> first | (cases h; rfl) | cases h
  · refine all_cons ?_ (all_nil)
    · refine ⟨fun vs os => ?_, by kernel_rfl, fun k vs os r h => ?_⟩
      · show C_laws_szItemS_5.fn 0 vs os = none
        unfold C_laws_szItemS_5; dsimp only; split <;> rfl
      · change C_laws_szItemS_5.fn (k + 1) vs os = some r at h
        unfold C_laws_szItemS_5 at h; dsimp only at h
        split at h
        · exact ⟨4000, (c_laws_szItemS_5 k _ _ _).trans h⟩
        · cases h
  · intro args os r h
    change (S_laws_szItemS k).run args os = some r at h
    unfold S_laws_szItemS at h; dsimp only at h
    split at h
    · exact ⟨Nat.le_of_ble_eq_true (by kernel_rfl), rfl, k, 4000, (e_laws_szItemS k _ _).trans h⟩
    · cases h
def laws_szSend (k : Nat) (a0 : DSend) (a1 : Int) : Option (Int) :=
  (laws_szItemS k a0.Items a1).bind fun r1 =>
  match (decide (r1 < 0)) with
  | true =>
    some (-1)
  | false =>
    some r1
def S_laws_szSend (k : Nat) : Summ K TyK where
  R := Int
  modes := [.bo, .bo]
  run := fun args objs => match args, objs with
    | [.agg [.lit (.int .i64 v1), .inl true .item v2], .lit (.int .i64 v3)], [] => laws_szSend k (⟨v1, v2⟩ : DSend) v3
    | _, _ => none
  ret := fun r => (.lit (.int .i64 r), [])
  quiet := true
def D_laws_szSend (v : V) (os : Objs K TyK) : Option (Int) :=
  match v, os with
  | .lit (.int .i64 v1), [] => some v1
  | _, _ => none
abbrev G_laws_szSend (k : Nat) : FuncId → Option (Summ K TyK) := lookT [(27, S_laws_szItemS k)]
abbrev L_laws_szSend : List (Nat × Cut K TyK (Int)) := []
theorem e_laws_szSend (k : Nat) (a0 : DSend) (a1 : Int) : run cod T (G_laws_szSend k) (lam L_laws_szSend k) (cutsOf L_laws_szSend) 0 (finish cod T false 0 [.tmp 4] D_laws_szSend) 4000 false [.code (bodyOf Try.f15)] (envOf [0, 1] [.agg [.lit (.int .i64 a0.Base), .inl true .item a0.Items], .lit (.int .i64 a1)]) [] = laws_szSend k a0 a1 := by kernel_rfl
theorem ok_laws_szSend (k : Nat) : SummOk Try.prog cod 15 (S_laws_szSend k) := by
  refine summ_of (T := T) Try.f15 (G_laws_szSend) L_laws_szSend false [.tmp 4] 0 D_laws_szSend mixed (fun k => Known.of tok eok codOk ?_) (fun k => QuietOk.of ?_) Try.func15 (by kernel_rfl) (by kernel_rfl) (by kernel_rfl) (by kernel_rfl) (by kernel_rfl) ?_ ?_ ?_
  · exact all_cons (ok_laws_szItemS k) (all_nil)
  · exact all_cons (fun h r => ⟨rfl, rfl⟩) (all_nil)
  · intro v os r h
    unfold D_laws_szSend at h
    split at h <;> first | (cases h; rfl) | cases h
  · refine all_nil
  · intro args os r h
    change (S_laws_szSend k).run args os = some r at h
    unfold S_laws_szSend at h; dsimp only at h
    split at h
    · exact ⟨Nat.le_of_ble_eq_true (by kernel_rfl), rfl, k, 4000, (e_laws_szSend k ⟨_, _⟩ _).trans h⟩
    · cases h
def laws_toPart (k : Nat) (a0 : DPart) : Option (DPart) :=
  some a0
def S_laws_toPart (k : Nat) : Summ K TyK where
  R := DPart
  modes := [.bo]
  run := fun args objs => match args, objs with
    | [.agg [.lit (.string v1), .lit (.bool v2)]], [] => laws_toPart k (⟨v1, v2⟩ : DPart)
    | _, _ => none
  ret := fun r => (.agg [.lit (.string r.Text), .lit (.bool r.Last)], [])
  quiet := true
def D_laws_toPart (v : V) (os : Objs K TyK) : Option (DPart) :=
  match v, os with
  | .agg [.lit (.string v1), .lit (.bool v2)], [] => some (⟨v1, v2⟩ : DPart)
  | _, _ => none
abbrev G_laws_toPart (k : Nat) : FuncId → Option (Summ K TyK) := lookT []
abbrev L_laws_toPart : List (Nat × Cut K TyK (DPart)) := []
theorem e_laws_toPart (k : Nat) (a0 : DPart) : run cod T (G_laws_toPart k) (lam L_laws_toPart k) (cutsOf L_laws_toPart) 0 (finish cod T false 0 [.cell 2 54] D_laws_toPart) 4000 false [.code (bodyOf Try.f40)] (envOf [0] [.agg [.lit (.string a0.Text), .lit (.bool a0.Last)]]) [] = laws_toPart k a0 := by kernel_rfl
theorem ok_laws_toPart (k : Nat) : SummOk Try.prog cod 40 (S_laws_toPart k) := by
  refine summ_of (T := T) Try.f40 (G_laws_toPart) L_laws_toPart false [.cell 2 54] 0 D_laws_toPart mixed (fun k => Known.of tok eok codOk ?_) (fun k => QuietOk.of ?_) Try.func40 (by kernel_rfl) (by kernel_rfl) (by kernel_rfl) (by kernel_rfl) (by kernel_rfl) ?_ ?_ ?_
  · exact all_nil
  · exact all_nil
  · intro v os r h
    unfold D_laws_toPart at h
    split at h <;> first | (cases h; rfl) | cases h
  · refine all_nil
  · intro args os r h
    change (S_laws_toPart k).run args os = some r at h
    unfold S_laws_toPart at h; dsimp only at h
    split at h
    · exact ⟨Nat.le_of_ble_eq_true (by kernel_rfl), rfl, k, 4000, (e_laws_toPart k ⟨_, _⟩).trans h⟩
    · cases h
def laws_toItem (k : Nat) (a0 : DItem) : Option (DItem) :=
  (laws_toPart k a0.Part).bind fun r1 =>
  some (⟨r1, a0.Has, a0.Since⟩ : DItem)
def S_laws_toItem (k : Nat) : Summ K TyK where
  R := DItem
  modes := [.bo]
  run := fun args objs => match args, objs with
    | [.agg [.lit (.string v1), .lit (.bool v2), .lit (.bool v3), .lit (.int .i64 v4)]], [] => laws_toItem k (⟨(⟨v1, v2⟩ : DPart), v3, v4⟩ : DItem)
    | _, _ => none
  ret := fun r => (.agg [.lit (.string r.Part.Text), .lit (.bool r.Part.Last), .lit (.bool r.Has), .lit (.int .i64 r.Since)], [])
  quiet := true
def D_laws_toItem (v : V) (os : Objs K TyK) : Option (DItem) :=
  match v, os with
  | .agg [.lit (.string v1), .lit (.bool v2), .lit (.bool v3), .lit (.int .i64 v4)], [] => some (⟨(⟨v1, v2⟩ : DPart), v3, v4⟩ : DItem)
  | _, _ => none
abbrev G_laws_toItem (k : Nat) : FuncId → Option (Summ K TyK) := lookT [(40, S_laws_toPart k)]
abbrev L_laws_toItem : List (Nat × Cut K TyK (DItem)) := []
theorem e_laws_toItem (k : Nat) (a0 : DItem) : run cod T (G_laws_toItem k) (lam L_laws_toItem k) (cutsOf L_laws_toItem) 0 (finish cod T false 0 [.cell 2 59] D_laws_toItem) 4000 false [.code (bodyOf Try.f36)] (envOf [0] [.agg [.lit (.string a0.Part.Text), .lit (.bool a0.Part.Last), .lit (.bool a0.Has), .lit (.int .i64 a0.Since)]]) [] = laws_toItem k a0 := by kernel_rfl
theorem ok_laws_toItem (k : Nat) : SummOk Try.prog cod 36 (S_laws_toItem k) := by
  refine summ_of (T := T) Try.f36 (G_laws_toItem) L_laws_toItem false [.cell 2 59] 0 D_laws_toItem mixed (fun k => Known.of tok eok codOk ?_) (fun k => QuietOk.of ?_) Try.func36 (by kernel_rfl) (by kernel_rfl) (by kernel_rfl) (by kernel_rfl) (by kernel_rfl) ?_ ?_ ?_
  · exact all_cons (ok_laws_toPart k) (all_nil)
  · exact all_cons (fun h r => ⟨rfl, rfl⟩) (all_nil)
  · intro v os r h
    unfold D_laws_toItem at h
    split at h <;> first | (cases h; rfl) | cases h
  · refine all_nil
  · intro args os r h
    change (S_laws_toItem k).run args os = some r at h
    unfold S_laws_toItem at h; dsimp only at h
    split at h
    · exact ⟨Nat.le_of_ble_eq_true (by kernel_rfl), rfl, k, 4000, (e_laws_toItem k ⟨⟨_, _⟩, _, _⟩).trans h⟩
    · cases h
def laws_toItemS_l3 : Nat → List DItem → Int → List DItem → Option (List DItem)
  | 0, _, _, _ => none
  | k + 1, x0, x1, x2 =>
    match (decide (x1 < (x0.length : Int))) with
    | true =>
      (idx x0 x1).bind fun y2 =>
      (laws_toItem k y2).bind fun r3 =>
      (idx x2 x1).bind fun _ =>
      (x2[(Int.toNat x1)]?).bind fun y4 =>
      laws_toItemS_l3 k x0 (IntKind.wrap .i64 (x1 + 1)) (x2.set (Int.toNat x1) r3)
    | false =>
      some x2
def laws_toItemS (k : Nat) (a0 : List DItem) : Option (List DItem) :=
  (if ((a0.length : Int) : Int) = (a0.length : Int) then room 40 (a0.length : Int) else none).bind fun n1 =>
  laws_toItemS_l3 k a0 0 (List.replicate n1 (⟨(⟨(⟨#[]⟩ : ByteArray), false⟩ : DPart), false, 0⟩ : DItem))
def S_laws_toItemS (k : Nat) : Summ K TyK where
  R := List DItem
  modes := [.bo]
  run := fun args objs => match args, objs with
    | [.inl true .item v1], [] => laws_toItemS k v1
    | _, _ => none
  ret := fun r => (.own 0, [.sl .item r])
  quiet := false
def D_laws_toItemS (v : V) (os : Objs K TyK) : Option (List DItem) :=
  match v, os with
  | .own 0, [.sl .item v1] => some v1
  | _, _ => none
def C_laws_toItemS_3 : Cut K TyK (List DItem) where
  slots := [0, 3, 4]
  fn := fun k vs os => match vs, os with
    | [.inl true .item x0, .own 0, .lit (.int .i64 x1)], [.sl .item x2] => laws_toItemS_l3 k x0 x1 x2
    | _, _ => none
abbrev G_laws_toItemS (k : Nat) : FuncId → Option (Summ K TyK) := lookT [(36, S_laws_toItem k)]
abbrev L_laws_toItemS : List (Nat × Cut K TyK (List DItem)) := [(3, C_laws_toItemS_3)]
theorem c_laws_toItemS_3 (k : Nat) (x0 : List DItem) (x1 : Int) (x2 : List DItem) : run cod T (G_laws_toItemS k) (lam L_laws_toItemS k) (cutsOf L_laws_toItemS) 0 (finish cod T false 0 [.tmp 2] D_laws_toItemS) 4000 true (todoAt 3 (bodyOf Try.f28)) (envOf [0, 3, 4] [.inl true .item x0, .own 0, .lit (.int .i64 x1)]) [.sl .item x2] = laws_toItemS_l3 (k + 1) x0 x1 x2 := by kernel_rfl
theorem e_laws_toItemS (k : Nat) (a0 : List DItem) : run cod T (G_laws_toItemS k) (lam L_laws_toItemS k) (cutsOf L_laws_toItemS) 0 (finish cod T false 0 [.tmp 2] D_laws_toItemS) 4000 false [.code (bodyOf Try.f28)] (envOf [0] [.inl true .item a0]) [] = laws_toItemS k a0 := by kernel_rfl
theorem ok_laws_toItemS (k : Nat) : SummOk Try.prog cod 28 (S_laws_toItemS k) := by
  refine summ_of (T := T) Try.f28 (G_laws_toItemS) L_laws_toItemS false [.tmp 2] 0 D_laws_toItemS mixed (fun k => Known.of tok eok codOk ?_) (fun k => QuietOk.of ?_) Try.func28 (by kernel_rfl) (by kernel_rfl) (by kernel_rfl) (by kernel_rfl) (by kernel_rfl) ?_ ?_ ?_
  · exact all_cons (ok_laws_toItem k) (all_nil)
  · exact all_cons (fun h r => ⟨rfl, rfl⟩) (all_nil)
  · intro v os r h
    unfold D_laws_toItemS at h
    split at h <;> first | (cases h; rfl) | cases h
  · refine all_cons ?_ (all_nil)
    · refine ⟨fun vs os => ?_, by kernel_rfl, fun k vs os r h => ?_⟩
      · show C_laws_toItemS_3.fn 0 vs os = none
        unfold C_laws_toItemS_3; dsimp only; split <;> rfl
      · change C_laws_toItemS_3.fn (k + 1) vs os = some r at h
        unfold C_laws_toItemS_3 at h; dsimp only at h
        split at h
        · exact ⟨4000, (c_laws_toItemS_3 k _ _ _).trans h⟩
        · cases h
  · intro args os r h
    change (S_laws_toItemS k).run args os = some r at h
    unfold S_laws_toItemS at h; dsimp only at h
    split at h
    · exact ⟨Nat.le_of_ble_eq_true (by kernel_rfl), rfl, k, 4000, (e_laws_toItemS k _).trans h⟩
    · cases h
def laws_toSend (k : Nat) (a0 : DSend) : Option (DSend) :=
  (laws_toItemS k a0.Items).bind fun r1 =>
  some (⟨a0.Base, r1⟩ : DSend)
def S_laws_toSend (k : Nat) : Summ K TyK where
  R := DSend
  modes := [.bo]
  run := fun args objs => match args, objs with
    | [.agg [.lit (.int .i64 v1), .inl true .item v2]], [] => laws_toSend k (⟨v1, v2⟩ : DSend)
    | _, _ => none
  ret := fun r => (.agg [.lit (.int .i64 r.Base), .own 0], [.sl .item r.Items])
  quiet := false
def D_laws_toSend (v : V) (os : Objs K TyK) : Option (DSend) :=
  match v, os with
  | .agg [.lit (.int .i64 v1), .own 0], [.sl .item v2] => some (⟨v1, v2⟩ : DSend)
  | _, _ => none
abbrev G_laws_toSend (k : Nat) : FuncId → Option (Summ K TyK) := lookT [(28, S_laws_toItemS k)]
abbrev L_laws_toSend : List (Nat × Cut K TyK (DSend)) := []
theorem e_laws_toSend (k : Nat) (a0 : DSend) : run cod T (G_laws_toSend k) (lam L_laws_toSend k) (cutsOf L_laws_toSend) 0 (finish cod T false 0 [.cell 2 37] D_laws_toSend) 4000 false [.code (bodyOf Try.f17)] (envOf [0] [.agg [.lit (.int .i64 a0.Base), .inl true .item a0.Items]]) [] = laws_toSend k a0 := by kernel_rfl
theorem ok_laws_toSend (k : Nat) : SummOk Try.prog cod 17 (S_laws_toSend k) := by
  refine summ_of (T := T) Try.f17 (G_laws_toSend) L_laws_toSend false [.cell 2 37] 0 D_laws_toSend mixed (fun k => Known.of tok eok codOk ?_) (fun k => QuietOk.of ?_) Try.func17 (by kernel_rfl) (by kernel_rfl) (by kernel_rfl) (by kernel_rfl) (by kernel_rfl) ?_ ?_ ?_
  · exact all_cons (ok_laws_toItemS k) (all_nil)
  · exact all_cons (fun h r => by cases h) (all_nil)
  · intro v os r h
    unfold D_laws_toSend at h
    split at h <;> first | (cases h; rfl) | cases h
  · refine all_nil
  · intro args os r h
    change (S_laws_toSend k).run args os = some r at h
    unfold S_laws_toSend at h; dsimp only at h
    split at h
    · exact ⟨Nat.le_of_ble_eq_true (by kernel_rfl), rfl, k, 4000, (e_laws_toSend k ⟨_, _⟩).trans h⟩
    · cases h
def spec_ValidSend_l4 : Nat → Int → Int → List DItem → Option (Bool)
  | 0, _, _, _ => none
  | k + 1, x0, x1, x2 =>
    match (decide (x0 < (x2.length : Int))) with
    | true =>
      (idx x2 x0).bind fun y2 =>
      match (decide ((y2.Part.Text.size : Int) > 20)) with
      | true =>
        some false
      | false =>
        (spec_l1In k y2.Since (-1) 3).bind fun r3 =>
        match (!r3) with
        | true =>
          some false
        | false =>
          match (decide (x0 ≥ 8)) with
          | true =>
            match (y2.Since != (-1)) with
            | true =>
              some false
            | false =>
              match y2.Has with
              | true =>
                match (decide (y2.Since < 0)) with
                | true =>
                  some false
                | false =>
                  spec_ValidSend_l4 k (IntKind.wrap .i64 (x0 + 1)) x1 x2
              | false =>
                spec_ValidSend_l4 k (IntKind.wrap .i64 (x0 + 1)) x1 x2
          | false =>
            match y2.Has with
            | true =>
              match (decide (y2.Since < 0)) with
              | true =>
                some false
              | false =>
                spec_ValidSend_l4 k (IntKind.wrap .i64 (x0 + 1)) x1 x2
            | false =>
              spec_ValidSend_l4 k (IntKind.wrap .i64 (x0 + 1)) x1 x2
    | false =>
      some true
def spec_ValidSend (k : Nat) (a0 : DSend) : Option (Bool) :=
  match (decide ((a0.Items.length : Int) > 60)) with
  | true =>
    some false
  | false =>
    (spec_l1In k a0.Base 0 1000000).bind fun r1 =>
    match (!r1) with
    | true =>
      some false
    | false =>
      match (decide ((IntKind.wrap .i64 (a0.Base + (a0.Items.length : Int))) > 1000000)) with
      | true =>
        some false
      | false =>
        spec_ValidSend_l4 k 0 a0.Base a0.Items
def S_spec_ValidSend (k : Nat) : Summ K TyK where
  R := Bool
  modes := [.bo]
  run := fun args objs => match args, objs with
    | [.agg [.lit (.int .i64 v1), .inl true .item v2]], [] => spec_ValidSend k (⟨v1, v2⟩ : DSend)
    | _, _ => none
  ret := fun r => (.lit (.bool r), [])
  quiet := true
def D_spec_ValidSend (v : V) (os : Objs K TyK) : Option (Bool) :=
  match v, os with
  | .lit (.bool v1), [] => some v1
  | _, _ => none
def C_spec_ValidSend_4 : Cut K TyK (Bool) where
  slots := [1, 3]
  fn := fun k vs os => match vs, os with
    | [.ref 0 0, .lit (.int .i64 x0)], [.box [.lit (.int .i64 x1), .inl true .item x2]] => spec_ValidSend_l4 k x0 x1 x2
    | _, _ => none
abbrev G_spec_ValidSend (k : Nat) : FuncId → Option (Summ K TyK) := lookT [(24, S_spec_l1In k)]
abbrev L_spec_ValidSend : List (Nat × Cut K TyK (Bool)) := [(4, C_spec_ValidSend_4)]
theorem c_spec_ValidSend_4 (k : Nat) (x0 : Int) (x1 : Int) (x2 : List DItem) : run cod T (G_spec_ValidSend k) (lam L_spec_ValidSend k) (cutsOf L_spec_ValidSend) 0 (finish cod T false 0 [.tmp 2] D_spec_ValidSend) 4000 true (todoAt 4 (bodyOf Try.f16)) (envOf [1, 3] [.ref 0 0, .lit (.int .i64 x0)]) [.box [.lit (.int .i64 x1), .inl true .item x2]] = spec_ValidSend_l4 (k + 1) x0 x1 x2 := by kernel_rfl
theorem e_spec_ValidSend (k : Nat) (a0 : DSend) : run cod T (G_spec_ValidSend k) (lam L_spec_ValidSend k) (cutsOf L_spec_ValidSend) 0 (finish cod T false 0 [.tmp 2] D_spec_ValidSend) 4000 false [.code (bodyOf Try.f16)] (envOf [0] [.agg [.lit (.int .i64 a0.Base), .inl true .item a0.Items]]) [] = spec_ValidSend k a0 := by kernel_rfl
theorem ok_spec_ValidSend (k : Nat) : SummOk Try.prog cod 16 (S_spec_ValidSend k) := by
  refine summ_of (T := T) Try.f16 (G_spec_ValidSend) L_spec_ValidSend false [.tmp 2] 0 D_spec_ValidSend mixed (fun k => Known.of tok eok codOk ?_) (fun k => QuietOk.of ?_) Try.func16 (by kernel_rfl) (by kernel_rfl) (by kernel_rfl) (by kernel_rfl) (by kernel_rfl) ?_ ?_ ?_
  · exact all_cons (ok_spec_l1In k) (all_nil)
  · exact all_cons (fun h r => ⟨rfl, rfl⟩) (all_nil)
  · intro v os r h
    unfold D_spec_ValidSend at h
    split at h <;> first | (cases h; rfl) | cases h
  · refine all_cons ?_ (all_nil)
    · refine ⟨fun vs os => ?_, by kernel_rfl, fun k vs os r h => ?_⟩
      · show C_spec_ValidSend_4.fn 0 vs os = none
        unfold C_spec_ValidSend_4; dsimp only; split <;> rfl
      · change C_spec_ValidSend_4.fn (k + 1) vs os = some r at h
        unfold C_spec_ValidSend_4 at h; dsimp only at h
        split at h
        · exact ⟨4000, (c_spec_ValidSend_4 k _ _ _).trans h⟩
        · cases h
  · intro args os r h
    change (S_spec_ValidSend k).run args os = some r at h
    unfold S_spec_ValidSend at h; dsimp only at h
    split at h
    · exact ⟨Nat.le_of_ble_eq_true (by kernel_rfl), rfl, k, 4000, (e_spec_ValidSend k ⟨_, _⟩).trans h⟩
    · cases h
def impl_in (k : Nat) (a0 : Int) (a1 : Int) (a2 : Int) : Option (Bool) :=
  match (decide (a0 ≥ a1)) with
  | true =>
    some (decide (a0 ≤ a2))
  | false =>
    some false
def S_impl_in (k : Nat) : Summ K TyK where
  R := Bool
  modes := [.bo, .bo, .bo]
  run := fun args objs => match args, objs with
    | [.lit (.int .i64 v1), .lit (.int .i64 v2), .lit (.int .i64 v3)], [] => impl_in k v1 v2 v3
    | _, _ => none
  ret := fun r => (.lit (.bool r), [])
  quiet := true
def D_impl_in (v : V) (os : Objs K TyK) : Option (Bool) :=
  match v, os with
  | .lit (.bool v1), [] => some v1
  | _, _ => none
abbrev G_impl_in (k : Nat) : FuncId → Option (Summ K TyK) := lookT []
abbrev L_impl_in : List (Nat × Cut K TyK (Bool)) := []
theorem e_impl_in (k : Nat) (a0 : Int) (a1 : Int) (a2 : Int) : run cod T (G_impl_in k) (lam L_impl_in k) (cutsOf L_impl_in) 0 (finish cod T false 0 [.tmp 6] D_impl_in) 4000 false [.code (bodyOf Try.f29)] (envOf [0, 1, 2] [.lit (.int .i64 a0), .lit (.int .i64 a1), .lit (.int .i64 a2)]) [] = impl_in k a0 a1 a2 := by kernel_rfl
theorem ok_impl_in (k : Nat) : SummOk Try.prog cod 29 (S_impl_in k) := by
  refine summ_of (T := T) Try.f29 (G_impl_in) L_impl_in false [.tmp 6] 0 D_impl_in mixed (fun k => Known.of tok eok codOk ?_) (fun k => QuietOk.of ?_) Try.func29 (by kernel_rfl) (by kernel_rfl) (by kernel_rfl) (by kernel_rfl) (by kernel_rfl) ?_ ?_ ?_
  · exact all_nil
  · exact all_nil
  · intro v os r h
    unfold D_impl_in at h
    split at h <;> first | (cases h; rfl) | cases h
  · refine all_nil
  · intro args os r h
    change (S_impl_in k).run args os = some r at h
    unfold S_impl_in at h; dsimp only at h
    split at h
    · exact ⟨Nat.le_of_ble_eq_true (by kernel_rfl), rfl, k, 4000, (e_impl_in k _ _ _).trans h⟩
    · cases h
def impl_ValidSend_l4 : Nat → List DItem → Int → Int → Option (Bool)
  | 0, _, _, _ => none
  | k + 1, x0, x1, x2 =>
    match (decide (x2 < x1)) with
    | true =>
      (idx x0 x2).bind fun y2 =>
      match (decide ((y2.Part.Text.size : Int) > 20)) with
      | true =>
        some false
      | false =>
        (impl_in k y2.Since (-1) 3).bind fun r3 =>
        match (!r3) with
        | true =>
          some false
        | false =>
          match (decide (x2 ≥ 8)) with
          | true =>
            match (y2.Since != (-1)) with
            | true =>
              some false
            | false =>
              match y2.Has with
              | true =>
                match (decide (y2.Since < 0)) with
                | true =>
                  some false
                | false =>
                  impl_ValidSend_l4 k x0 x1 (IntKind.wrap .i64 (x2 + 1))
              | false =>
                impl_ValidSend_l4 k x0 x1 (IntKind.wrap .i64 (x2 + 1))
          | false =>
            match y2.Has with
            | true =>
              match (decide (y2.Since < 0)) with
              | true =>
                some false
              | false =>
                impl_ValidSend_l4 k x0 x1 (IntKind.wrap .i64 (x2 + 1))
            | false =>
              impl_ValidSend_l4 k x0 x1 (IntKind.wrap .i64 (x2 + 1))
    | false =>
      some true
def impl_ValidSend (k : Nat) (a0 : DSend) : Option (Bool) :=
  match (decide ((a0.Items.length : Int) > 60)) with
  | true =>
    some false
  | false =>
    (impl_in k a0.Base 0 1000000).bind fun r1 =>
    match (!r1) with
    | true =>
      some false
    | false =>
      match (decide ((IntKind.wrap .i64 (a0.Base + (a0.Items.length : Int))) > 1000000)) with
      | true =>
        some false
      | false =>
        impl_ValidSend_l4 k a0.Items (a0.Items.length : Int) 0
def S_impl_ValidSend (k : Nat) : Summ K TyK where
  R := Bool
  modes := [.bo]
  run := fun args objs => match args, objs with
    | [.agg [.lit (.int .i64 v1), .inl true .item v2]], [] => impl_ValidSend k (⟨v1, v2⟩ : DSend)
    | _, _ => none
  ret := fun r => (.lit (.bool r), [])
  quiet := true
def D_impl_ValidSend (v : V) (os : Objs K TyK) : Option (Bool) :=
  match v, os with
  | .lit (.bool v1), [] => some v1
  | _, _ => none
def C_impl_ValidSend_4 : Cut K TyK (Bool) where
  slots := [25, 26, 27]
  fn := fun k vs os => match vs, os with
    | [.inl true .item x0, .lit (.int .i64 x1), .lit (.int .i64 x2)], [] => impl_ValidSend_l4 k x0 x1 x2
    | _, _ => none
abbrev G_impl_ValidSend (k : Nat) : FuncId → Option (Summ K TyK) := lookT [(29, S_impl_in k)]
abbrev L_impl_ValidSend : List (Nat × Cut K TyK (Bool)) := [(4, C_impl_ValidSend_4)]
theorem c_impl_ValidSend_4 (k : Nat) (x0 : List DItem) (x1 : Int) (x2 : Int) : run cod T (G_impl_ValidSend k) (lam L_impl_ValidSend k) (cutsOf L_impl_ValidSend) 0 (finish cod T false 0 [.tmp 2] D_impl_ValidSend) 4000 true (todoAt 4 (bodyOf Try.f18)) (envOf [25, 26, 27] [.inl true .item x0, .lit (.int .i64 x1), .lit (.int .i64 x2)]) [] = impl_ValidSend_l4 (k + 1) x0 x1 x2 := by kernel_rfl
theorem e_impl_ValidSend (k : Nat) (a0 : DSend) : run cod T (G_impl_ValidSend k) (lam L_impl_ValidSend k) (cutsOf L_impl_ValidSend) 0 (finish cod T false 0 [.tmp 2] D_impl_ValidSend) 4000 false [.code (bodyOf Try.f18)] (envOf [0] [.agg [.lit (.int .i64 a0.Base), .inl true .item a0.Items]]) [] = impl_ValidSend k a0 := by kernel_rfl
theorem ok_impl_ValidSend (k : Nat) : SummOk Try.prog cod 18 (S_impl_ValidSend k) := by
  refine summ_of (T := T) Try.f18 (G_impl_ValidSend) L_impl_ValidSend false [.tmp 2] 0 D_impl_ValidSend mixed (fun k => Known.of tok eok codOk ?_) (fun k => QuietOk.of ?_) Try.func18 (by kernel_rfl) (by kernel_rfl) (by kernel_rfl) (by kernel_rfl) (by kernel_rfl) ?_ ?_ ?_
  · exact all_cons (ok_impl_in k) (all_nil)
  · exact all_cons (fun h r => ⟨rfl, rfl⟩) (all_nil)
  · intro v os r h
    unfold D_impl_ValidSend at h
    split at h <;> first | (cases h; rfl) | cases h
  · refine all_cons ?_ (all_nil)
    · refine ⟨fun vs os => ?_, by kernel_rfl, fun k vs os r h => ?_⟩
      · show C_impl_ValidSend_4.fn 0 vs os = none
        unfold C_impl_ValidSend_4; dsimp only; split <;> rfl
      · change C_impl_ValidSend_4.fn (k + 1) vs os = some r at h
        unfold C_impl_ValidSend_4 at h; dsimp only at h
        split at h
        · exact ⟨4000, (c_impl_ValidSend_4 k _ _ _).trans h⟩
        · cases h
  · intro args os r h
    change (S_impl_ValidSend k).run args os = some r at h
    unfold S_impl_ValidSend at h; dsimp only at h
    split at h
    · exact ⟨Nat.le_of_ble_eq_true (by kernel_rfl), rfl, k, 4000, (e_impl_ValidSend k ⟨_, _⟩).trans h⟩
    · cases h
def laws_eqItem (k : Nat) (a0 : DItem) (a1 : DItem) : Option (Bool) :=
  (laws_eqPart k a0.Part a1.Part).bind fun r1 =>
  match (!r1) with
  | true =>
    some false
  | false =>
    match (!(a0.Has == a1.Has)) with
    | true =>
      some false
    | false =>
      match (a0.Since != a1.Since) with
      | true =>
        some false
      | false =>
        some true
def S_laws_eqItem (k : Nat) : Summ K TyK where
  R := Bool
  modes := [.bo, .bo]
  run := fun args objs => match args, objs with
    | [.agg [.lit (.string v1), .lit (.bool v2), .lit (.bool v3), .lit (.int .i64 v4)], .agg [.lit (.string v5), .lit (.bool v6), .lit (.bool v7), .lit (.int .i64 v8)]], [] => laws_eqItem k (⟨(⟨v1, v2⟩ : DPart), v3, v4⟩ : DItem) (⟨(⟨v5, v6⟩ : DPart), v7, v8⟩ : DItem)
    | _, _ => none
  ret := fun r => (.lit (.bool r), [])
  quiet := true
def D_laws_eqItem (v : V) (os : Objs K TyK) : Option (Bool) :=
  match v, os with
  | .lit (.bool v1), [] => some v1
  | _, _ => none
abbrev G_laws_eqItem (k : Nat) : FuncId → Option (Summ K TyK) := lookT [(25, S_laws_eqPart k)]
abbrev L_laws_eqItem : List (Nat × Cut K TyK (Bool)) := []
theorem e_laws_eqItem (k : Nat) (a0 : DItem) (a1 : DItem) : run cod T (G_laws_eqItem k) (lam L_laws_eqItem k) (cutsOf L_laws_eqItem) 0 (finish cod T false 0 [.tmp 4] D_laws_eqItem) 4000 false [.code (bodyOf Try.f37)] (envOf [0, 1] [.agg [.lit (.string a0.Part.Text), .lit (.bool a0.Part.Last), .lit (.bool a0.Has), .lit (.int .i64 a0.Since)], .agg [.lit (.string a1.Part.Text), .lit (.bool a1.Part.Last), .lit (.bool a1.Has), .lit (.int .i64 a1.Since)]]) [] = laws_eqItem k a0 a1 := by kernel_rfl
theorem ok_laws_eqItem (k : Nat) : SummOk Try.prog cod 37 (S_laws_eqItem k) := by
  refine summ_of (T := T) Try.f37 (G_laws_eqItem) L_laws_eqItem false [.tmp 4] 0 D_laws_eqItem mixed (fun k => Known.of tok eok codOk ?_) (fun k => QuietOk.of ?_) Try.func37 (by kernel_rfl) (by kernel_rfl) (by kernel_rfl) (by kernel_rfl) (by kernel_rfl) ?_ ?_ ?_
  · exact all_cons (ok_laws_eqPart k) (all_nil)
  · exact all_cons (fun h r => ⟨rfl, rfl⟩) (all_nil)
  · intro v os r h
    unfold D_laws_eqItem at h
    split at h <;> first | (cases h; rfl) | cases h
  · refine all_nil
  · intro args os r h
    change (S_laws_eqItem k).run args os = some r at h
    unfold S_laws_eqItem at h; dsimp only at h
    split at h
    · exact ⟨Nat.le_of_ble_eq_true (by kernel_rfl), rfl, k, 4000, (e_laws_eqItem k ⟨⟨_, _⟩, _, _⟩ ⟨⟨_, _⟩, _, _⟩).trans h⟩
    · cases h
def laws_eqItemS_l4 : Nat → List DItem → List DItem → Int → Option (Bool)
  | 0, _, _, _ => none
  | k + 1, x0, x1, x2 =>
    match (decide (x2 < (x0.length : Int))) with
    | true =>
      (idx x0 x2).bind fun y1 =>
      (idx x1 x2).bind fun y2 =>
      (laws_eqItem k y1 y2).bind fun r3 =>
      match (!r3) with
      | true =>
        some false
      | false =>
        laws_eqItemS_l4 k x0 x1 (IntKind.wrap .i64 (x2 + 1))
    | false =>
      some true
def laws_eqItemS (k : Nat) (a0 : List DItem) (a1 : List DItem) : Option (Bool) :=
  match ((a0.length : Int) != (a1.length : Int)) with
  | true =>
    some false
  | false =>
    laws_eqItemS_l4 k a0 a1 0
def S_laws_eqItemS (k : Nat) : Summ K TyK where
  R := Bool
  modes := [.bo, .bo]
  run := fun args objs => match args, objs with
    | [.inl true .item v1, .inl true .item v2], [] => laws_eqItemS k v1 v2
    | _, _ => none
  ret := fun r => (.lit (.bool r), [])
  quiet := true
def D_laws_eqItemS (v : V) (os : Objs K TyK) : Option (Bool) :=
  match v, os with
  | .lit (.bool v1), [] => some v1
  | _, _ => none
def C_laws_eqItemS_4 : Cut K TyK (Bool) where
  slots := [0, 1, 5]
  fn := fun k vs os => match vs, os with
    | [.inl true .item x0, .inl true .item x1, .lit (.int .i64 x2)], [] => laws_eqItemS_l4 k x0 x1 x2
    | _, _ => none
abbrev G_laws_eqItemS (k : Nat) : FuncId → Option (Summ K TyK) := lookT [(37, S_laws_eqItem k)]
abbrev L_laws_eqItemS : List (Nat × Cut K TyK (Bool)) := [(4, C_laws_eqItemS_4)]
theorem c_laws_eqItemS_4 (k : Nat) (x0 : List DItem) (x1 : List DItem) (x2 : Int) : run cod T (G_laws_eqItemS k) (lam L_laws_eqItemS k) (cutsOf L_laws_eqItemS) 0 (finish cod T false 0 [.tmp 4] D_laws_eqItemS) 4000 true (todoAt 4 (bodyOf Try.f30)) (envOf [0, 1, 5] [.inl true .item x0, .inl true .item x1, .lit (.int .i64 x2)]) [] = laws_eqItemS_l4 (k + 1) x0 x1 x2 := by kernel_rfl
theorem e_laws_eqItemS (k : Nat) (a0 : List DItem) (a1 : List DItem) : run cod T (G_laws_eqItemS k) (lam L_laws_eqItemS k) (cutsOf L_laws_eqItemS) 0 (finish cod T false 0 [.tmp 4] D_laws_eqItemS) 4000 false [.code (bodyOf Try.f30)] (envOf [0, 1] [.inl true .item a0, .inl true .item a1]) [] = laws_eqItemS k a0 a1 := by kernel_rfl
theorem ok_laws_eqItemS (k : Nat) : SummOk Try.prog cod 30 (S_laws_eqItemS k) := by
  refine summ_of (T := T) Try.f30 (G_laws_eqItemS) L_laws_eqItemS false [.tmp 4] 0 D_laws_eqItemS mixed (fun k => Known.of tok eok codOk ?_) (fun k => QuietOk.of ?_) Try.func30 (by kernel_rfl) (by kernel_rfl) (by kernel_rfl) (by kernel_rfl) (by kernel_rfl) ?_ ?_ ?_
  · exact all_cons (ok_laws_eqItem k) (all_nil)
  · exact all_cons (fun h r => ⟨rfl, rfl⟩) (all_nil)
  · intro v os r h
    unfold D_laws_eqItemS at h
    split at h <;> first | (cases h; rfl) | cases h
  · refine all_cons ?_ (all_nil)
    · refine ⟨fun vs os => ?_, by kernel_rfl, fun k vs os r h => ?_⟩
      · show C_laws_eqItemS_4.fn 0 vs os = none
        unfold C_laws_eqItemS_4; dsimp only; split <;> rfl
      · change C_laws_eqItemS_4.fn (k + 1) vs os = some r at h
        unfold C_laws_eqItemS_4 at h; dsimp only at h
        split at h
        · exact ⟨4000, (c_laws_eqItemS_4 k _ _ _).trans h⟩
        · cases h
  · intro args os r h
    change (S_laws_eqItemS k).run args os = some r at h
    unfold S_laws_eqItemS at h; dsimp only at h
    split at h
    · exact ⟨Nat.le_of_ble_eq_true (by kernel_rfl), rfl, k, 4000, (e_laws_eqItemS k _ _).trans h⟩
    · cases h
def laws_eqSend (k : Nat) (a0 : DSend) (a1 : DSend) : Option (Bool) :=
  match (a0.Base != a1.Base) with
  | true =>
    some false
  | false =>
    (laws_eqItemS k a0.Items a1.Items).bind fun r1 =>
    match (!r1) with
    | true =>
      some false
    | false =>
      some true
def S_laws_eqSend (k : Nat) : Summ K TyK where
  R := Bool
  modes := [.bo, .bo]
  run := fun args objs => match args, objs with
    | [.agg [.lit (.int .i64 v1), .inl true .item v2], .agg [.lit (.int .i64 v3), .inl true .item v4]], [] => laws_eqSend k (⟨v1, v2⟩ : DSend) (⟨v3, v4⟩ : DSend)
    | _, _ => none
  ret := fun r => (.lit (.bool r), [])
  quiet := true
def D_laws_eqSend (v : V) (os : Objs K TyK) : Option (Bool) :=
  match v, os with
  | .lit (.bool v1), [] => some v1
  | _, _ => none
abbrev G_laws_eqSend (k : Nat) : FuncId → Option (Summ K TyK) := lookT [(30, S_laws_eqItemS k)]
abbrev L_laws_eqSend : List (Nat × Cut K TyK (Bool)) := []
theorem e_laws_eqSend (k : Nat) (a0 : DSend) (a1 : DSend) : run cod T (G_laws_eqSend k) (lam L_laws_eqSend k) (cutsOf L_laws_eqSend) 0 (finish cod T false 0 [.tmp 4] D_laws_eqSend) 4000 false [.code (bodyOf Try.f19)] (envOf [0, 1] [.agg [.lit (.int .i64 a0.Base), .inl true .item a0.Items], .agg [.lit (.int .i64 a1.Base), .inl true .item a1.Items]]) [] = laws_eqSend k a0 a1 := by kernel_rfl
theorem ok_laws_eqSend (k : Nat) : SummOk Try.prog cod 19 (S_laws_eqSend k) := by
  refine summ_of (T := T) Try.f19 (G_laws_eqSend) L_laws_eqSend false [.tmp 4] 0 D_laws_eqSend mixed (fun k => Known.of tok eok codOk ?_) (fun k => QuietOk.of ?_) Try.func19 (by kernel_rfl) (by kernel_rfl) (by kernel_rfl) (by kernel_rfl) (by kernel_rfl) ?_ ?_ ?_
  · exact all_cons (ok_laws_eqItemS k) (all_nil)
  · exact all_cons (fun h r => ⟨rfl, rfl⟩) (all_nil)
  · intro v os r h
    unfold D_laws_eqSend at h
    split at h <;> first | (cases h; rfl) | cases h
  · refine all_nil
  · intro args os r h
    change (S_laws_eqSend k).run args os = some r at h
    unfold S_laws_eqSend at h; dsimp only at h
    split at h
    · exact ⟨Nat.le_of_ble_eq_true (by kernel_rfl), rfl, k, 4000, (e_laws_eqSend k ⟨_, _⟩ ⟨_, _⟩).trans h⟩
    · cases h
def laws_FnExactValidSend (k : Nat) (a0 : DSend) : Option (Bool) :=
  (laws_szSend k a0 1048576).bind fun r1 =>
  match (decide (r1 < 0)) with
  | true =>
    some true
  | false =>
    (laws_toSend k a0).bind fun r2 =>
    (spec_ValidSend k r2).bind fun r3 =>
    (laws_toSend k a0).bind fun r4 =>
    (impl_ValidSend k r4).bind fun r5 =>
    match (!(r5 == r3)) with
    | true =>
      some false
    | false =>
      (laws_toSend k a0).bind fun r6 =>
      (laws_eqSend k r4 r6).bind fun r7 =>
      match (!r7) with
      | true =>
        some false
      | false =>
        some true
def S_laws_FnExactValidSend (k : Nat) : Summ K TyK where
  R := Bool
  modes := [.pe]
  run := fun args objs => match args, objs with
    | [.agg [.lit (.int .i64 v1), .inl false .item v2]], [] => laws_FnExactValidSend k (⟨v1, v2⟩ : DSend)
    | _, _ => none
  ret := fun r => (.lit (.bool r), [])
  quiet := true
def D_laws_FnExactValidSend (v : V) (os : Objs K TyK) : Option (Bool) :=
  match v, os with
  | .lit (.bool v1), [] => some v1
  | _, _ => none
abbrev G_laws_FnExactValidSend (k : Nat) : FuncId → Option (Summ K TyK) := lookT [(15, S_laws_szSend k), (17, S_laws_toSend k), (16, S_spec_ValidSend k), (18, S_impl_ValidSend k), (19, S_laws_eqSend k)]
abbrev L_laws_FnExactValidSend : List (Nat × Cut K TyK (Bool)) := []
theorem e_laws_FnExactValidSend (k : Nat) (a0 : DSend) : run cod T (G_laws_FnExactValidSend k) (lam L_laws_FnExactValidSend k) (cutsOf L_laws_FnExactValidSend) 0 (finish cod T false 0 [.tmp 2] D_laws_FnExactValidSend) 4000 false [.code (bodyOf Try.f6)] (envOf [0] [.agg [.lit (.int .i64 a0.Base), .inl false .item a0.Items]]) [] = laws_FnExactValidSend k a0 := by kernel_rfl
theorem ok_laws_FnExactValidSend (k : Nat) : SummOk Try.prog cod 6 (S_laws_FnExactValidSend k) := by
  refine summ_of (T := T) Try.f6 (G_laws_FnExactValidSend) L_laws_FnExactValidSend false [.tmp 2] 0 D_laws_FnExactValidSend mixed (fun k => Known.of tok eok codOk ?_) (fun k => QuietOk.of ?_) Try.func6 (by kernel_rfl) (by kernel_rfl) (by kernel_rfl) (by kernel_rfl) (by kernel_rfl) ?_ ?_ ?_
  · exact all_cons (ok_laws_szSend k) (all_cons (ok_laws_toSend k) (all_cons (ok_spec_ValidSend k) (all_cons (ok_impl_ValidSend k) (all_cons (ok_laws_eqSend k) (all_nil)))))
  · exact all_cons (fun h r => ⟨rfl, rfl⟩) (all_cons (fun h r => by cases h) (all_cons (fun h r => ⟨rfl, rfl⟩) (all_cons (fun h r => ⟨rfl, rfl⟩) (all_cons (fun h r => ⟨rfl, rfl⟩) (all_nil)))))
  · intro v os r h
    unfold D_laws_FnExactValidSend at h
    split at h <;> first | (cases h; rfl) | cases h
  · refine all_nil
  · intro args os r h
    change (S_laws_FnExactValidSend k).run args os = some r at h
    unfold S_laws_FnExactValidSend at h; dsimp only at h
    split at h
    · exact ⟨Nat.le_of_ble_eq_true (by kernel_rfl), rfl, k, 4000, (e_laws_FnExactValidSend k ⟨_, _⟩).trans h⟩
    · cases h
def laws_szPacket (k : Nat) (a0 : DPacket) (a1 : Int) : Option (Int) :=
  match (decide ((IntKind.wrap .i64 (a1 - (a0.Part.size : Int))) < 0)) with
  | true =>
    some (-1)
  | false =>
    some (IntKind.wrap .i64 (a1 - (a0.Part.size : Int)))
def S_laws_szPacket (k : Nat) : Summ K TyK where
  R := Int
  modes := [.bo, .bo]
  run := fun args objs => match args, objs with
    | [.agg [.lit (.int .i64 v1), .lit (.int .i64 v2), .lit (.int .i64 v3), .lit (.int .i64 v4), .lit (.int .i64 v5), .lit (.int .i64 v6), .lit (.int .i64 v7), .lit (.bool v8), .lit (.string v9)], .lit (.int .i64 v10)], [] => laws_szPacket k (⟨v1, v2, v3, v4, v5, v6, v7, v8, v9⟩ : DPacket) v10
    | _, _ => none
  ret := fun r => (.lit (.int .i64 r), [])
  quiet := true
def D_laws_szPacket (v : V) (os : Objs K TyK) : Option (Int) :=
  match v, os with
  | .lit (.int .i64 v1), [] => some v1
  | _, _ => none
abbrev G_laws_szPacket (k : Nat) : FuncId → Option (Summ K TyK) := lookT []
abbrev L_laws_szPacket : List (Nat × Cut K TyK (Int)) := []
theorem e_laws_szPacket (k : Nat) (a0 : DPacket) (a1 : Int) : run cod T (G_laws_szPacket k) (lam L_laws_szPacket k) (cutsOf L_laws_szPacket) 0 (finish cod T false 0 [.tmp 4] D_laws_szPacket) 4000 false [.code (bodyOf Try.f20)] (envOf [0, 1] [.agg [.lit (.int .i64 a0.Kind), .lit (.int .i64 a0.From), .lit (.int .i64 a0.Mine), .lit (.int .i64 a0.Yours), .lit (.int .i64 a0.Next), .lit (.int .i64 a0.Mask), .lit (.int .i64 a0.Seq), .lit (.bool a0.Last), .lit (.string a0.Part)], .lit (.int .i64 a1)]) [] = laws_szPacket k a0 a1 := by kernel_rfl
theorem ok_laws_szPacket (k : Nat) : SummOk Try.prog cod 20 (S_laws_szPacket k) := by
  refine summ_of (T := T) Try.f20 (G_laws_szPacket) L_laws_szPacket false [.tmp 4] 0 D_laws_szPacket mixed (fun k => Known.of tok eok codOk ?_) (fun k => QuietOk.of ?_) Try.func20 (by kernel_rfl) (by kernel_rfl) (by kernel_rfl) (by kernel_rfl) (by kernel_rfl) ?_ ?_ ?_
  · exact all_nil
  · exact all_nil
  · intro v os r h
    unfold D_laws_szPacket at h
    split at h <;> first | (cases h; rfl) | cases h
  · refine all_nil
  · intro args os r h
    change (S_laws_szPacket k).run args os = some r at h
    unfold S_laws_szPacket at h; dsimp only at h
    split at h
    · exact ⟨Nat.le_of_ble_eq_true (by kernel_rfl), rfl, k, 4000, (e_laws_szPacket k ⟨_, _, _, _, _, _, _, _, _⟩ _).trans h⟩
    · cases h
def laws_toPacket (k : Nat) (a0 : DPacket) : Option (DPacket) :=
  some a0
def S_laws_toPacket (k : Nat) : Summ K TyK where
  R := DPacket
  modes := [.bo]
  run := fun args objs => match args, objs with
    | [.agg [.lit (.int .i64 v1), .lit (.int .i64 v2), .lit (.int .i64 v3), .lit (.int .i64 v4), .lit (.int .i64 v5), .lit (.int .i64 v6), .lit (.int .i64 v7), .lit (.bool v8), .lit (.string v9)]], [] => laws_toPacket k (⟨v1, v2, v3, v4, v5, v6, v7, v8, v9⟩ : DPacket)
    | _, _ => none
  ret := fun r => (.agg [.lit (.int .i64 r.Kind), .lit (.int .i64 r.From), .lit (.int .i64 r.Mine), .lit (.int .i64 r.Yours), .lit (.int .i64 r.Next), .lit (.int .i64 r.Mask), .lit (.int .i64 r.Seq), .lit (.bool r.Last), .lit (.string r.Part)], [])
  quiet := true
def D_laws_toPacket (v : V) (os : Objs K TyK) : Option (DPacket) :=
  match v, os with
  | .agg [.lit (.int .i64 v1), .lit (.int .i64 v2), .lit (.int .i64 v3), .lit (.int .i64 v4), .lit (.int .i64 v5), .lit (.int .i64 v6), .lit (.int .i64 v7), .lit (.bool v8), .lit (.string v9)], [] => some (⟨v1, v2, v3, v4, v5, v6, v7, v8, v9⟩ : DPacket)
  | _, _ => none
abbrev G_laws_toPacket (k : Nat) : FuncId → Option (Summ K TyK) := lookT []
abbrev L_laws_toPacket : List (Nat × Cut K TyK (DPacket)) := []
theorem e_laws_toPacket (k : Nat) (a0 : DPacket) : run cod T (G_laws_toPacket k) (lam L_laws_toPacket k) (cutsOf L_laws_toPacket) 0 (finish cod T false 0 [.cell 2 45] D_laws_toPacket) 4000 false [.code (bodyOf Try.f22)] (envOf [0] [.agg [.lit (.int .i64 a0.Kind), .lit (.int .i64 a0.From), .lit (.int .i64 a0.Mine), .lit (.int .i64 a0.Yours), .lit (.int .i64 a0.Next), .lit (.int .i64 a0.Mask), .lit (.int .i64 a0.Seq), .lit (.bool a0.Last), .lit (.string a0.Part)]]) [] = laws_toPacket k a0 := by kernel_rfl
theorem ok_laws_toPacket (k : Nat) : SummOk Try.prog cod 22 (S_laws_toPacket k) := by
  refine summ_of (T := T) Try.f22 (G_laws_toPacket) L_laws_toPacket false [.cell 2 45] 0 D_laws_toPacket mixed (fun k => Known.of tok eok codOk ?_) (fun k => QuietOk.of ?_) Try.func22 (by kernel_rfl) (by kernel_rfl) (by kernel_rfl) (by kernel_rfl) (by kernel_rfl) ?_ ?_ ?_
  · exact all_nil
  · exact all_nil
  · intro v os r h
    unfold D_laws_toPacket at h
    split at h <;> first | (cases h; rfl) | cases h
  · refine all_nil
  · intro args os r h
    change (S_laws_toPacket k).run args os = some r at h
    unfold S_laws_toPacket at h; dsimp only at h
    split at h
    · exact ⟨Nat.le_of_ble_eq_true (by kernel_rfl), rfl, k, 4000, (e_laws_toPacket k ⟨_, _, _, _, _, _, _, _, _⟩).trans h⟩
    · cases h
def spec_l2Ok (k : Nat) (a0 : DPacket) : Option (Bool) :=
  (spec_l1In k a0.From 1 2).bind fun r1 =>
  match (!r1) with
  | true =>
    some false
  | false =>
    (spec_l1In k a0.Mine 1 1000).bind fun r2 =>
    match (!r2) with
    | true =>
      some false
    | false =>
      (spec_l1In k a0.Yours 0 1000).bind fun r3 =>
      match (!r3) with
      | true =>
        some false
      | false =>
        match (a0.Kind == 1) with
        | true =>
          (spec_l1In k a0.Next 0 1000000).bind fun r4 =>
          match r4 with
          | true =>
            (spec_l1In k a0.Mask 0 255).bind fun r5 =>
            match r5 with
            | true =>
              match (a0.Seq == 0) with
              | true =>
                match (!a0.Last) with
                | true =>
                  some (a0.Part.toList == (⟨#[]⟩ : ByteArray).toList)
                | false =>
                  some false
              | false =>
                some false
            | false =>
              some false
          | false =>
            some false
        | false =>
          match (a0.Kind == 2) with
          | true =>
            match (a0.Next == 0) with
            | true =>
              match (a0.Mask == 0) with
              | true =>
                (spec_l1In k a0.Seq 0 999999).bind fun r6 =>
                match r6 with
                | true =>
                  some (decide ((a0.Part.size : Int) ≤ 20))
                | false =>
                  some false
              | false =>
                some false
            | false =>
              some false
          | false =>
            some false
def S_spec_l2Ok (k : Nat) : Summ K TyK where
  R := Bool
  modes := [.bo]
  run := fun args objs => match args, objs with
    | [.agg [.lit (.int .i64 v1), .lit (.int .i64 v2), .lit (.int .i64 v3), .lit (.int .i64 v4), .lit (.int .i64 v5), .lit (.int .i64 v6), .lit (.int .i64 v7), .lit (.bool v8), .lit (.string v9)]], [] => spec_l2Ok k (⟨v1, v2, v3, v4, v5, v6, v7, v8, v9⟩ : DPacket)
    | _, _ => none
  ret := fun r => (.lit (.bool r), [])
  quiet := true
def D_spec_l2Ok (v : V) (os : Objs K TyK) : Option (Bool) :=
  match v, os with
  | .lit (.bool v1), [] => some v1
  | _, _ => none
abbrev G_spec_l2Ok (k : Nat) : FuncId → Option (Summ K TyK) := lookT [(24, S_spec_l1In k)]
abbrev L_spec_l2Ok : List (Nat × Cut K TyK (Bool)) := []
theorem e_spec_l2Ok (k : Nat) (a0 : DPacket) : run cod T (G_spec_l2Ok k) (lam L_spec_l2Ok k) (cutsOf L_spec_l2Ok) 0 (finish cod T false 0 [.tmp 2] D_spec_l2Ok) 4000 false [.code (bodyOf Try.f31)] (envOf [0] [.agg [.lit (.int .i64 a0.Kind), .lit (.int .i64 a0.From), .lit (.int .i64 a0.Mine), .lit (.int .i64 a0.Yours), .lit (.int .i64 a0.Next), .lit (.int .i64 a0.Mask), .lit (.int .i64 a0.Seq), .lit (.bool a0.Last), .lit (.string a0.Part)]]) [] = spec_l2Ok k a0 := by kernel_rfl
theorem ok_spec_l2Ok (k : Nat) : SummOk Try.prog cod 31 (S_spec_l2Ok k) := by
  refine summ_of (T := T) Try.f31 (G_spec_l2Ok) L_spec_l2Ok false [.tmp 2] 0 D_spec_l2Ok mixed (fun k => Known.of tok eok codOk ?_) (fun k => QuietOk.of ?_) Try.func31 (by kernel_rfl) (by kernel_rfl) (by kernel_rfl) (by kernel_rfl) (by kernel_rfl) ?_ ?_ ?_
  · exact all_cons (ok_spec_l1In k) (all_nil)
  · exact all_cons (fun h r => ⟨rfl, rfl⟩) (all_nil)
  · intro v os r h
    unfold D_spec_l2Ok at h
    split at h <;> first | (cases h; rfl) | cases h
  · refine all_nil
  · intro args os r h
    change (S_spec_l2Ok k).run args os = some r at h
    unfold S_spec_l2Ok at h; dsimp only at h
    split at h
    · exact ⟨Nat.le_of_ble_eq_true (by kernel_rfl), rfl, k, 4000, (e_spec_l2Ok k ⟨_, _, _, _, _, _, _, _, _⟩).trans h⟩
    · cases h
def spec_l1Number_l3 : Nat → Int → Int → ByteArray → Int → Option (ByteArray)
  | 0, _, _, _, _ => none
  | k + 1, x0, x1, x2, x3 =>
    match (decide (x3 < x1)) with
    | true =>
      (qrem x0 256).bind fun q1 =>
      (sadd (bstr ([(IntKind.wrap .u8 q1)] : List Int)) x2).bind fun t2 =>
      (qdiv x0 256).bind fun q3 =>
      spec_l1Number_l3 k (IntKind.wrap .i64 (q3)) x1 t2 (IntKind.wrap .i64 (x3 + 1))
    | false =>
      some x2
def spec_l1Number (k : Nat) (a0 : Int) (a1 : Int) : Option (ByteArray) :=
  spec_l1Number_l3 k a0 a1 (⟨#[]⟩ : ByteArray) 0
def S_spec_l1Number (k : Nat) : Summ K TyK where
  R := ByteArray
  modes := [.bo, .bo]
  run := fun args objs => match args, objs with
    | [.lit (.int .i64 v1), .lit (.int .i64 v2)], [] => spec_l1Number k v1 v2
    | _, _ => none
  ret := fun r => (.lit (.string r), [])
  quiet := true
def D_spec_l1Number (v : V) (os : Objs K TyK) : Option (ByteArray) :=
  match v, os with
  | .lit (.string v1), [] => some v1
  | _, _ => none
def C_spec_l1Number_3 : Cut K TyK (ByteArray) where
  slots := [0, 1, 5, 6]
  fn := fun k vs os => match vs, os with
    | [.lit (.int .i64 x0), .lit (.int .i64 x1), .lit (.string x2), .lit (.int .i64 x3)], [] => spec_l1Number_l3 k x0 x1 x2 x3
    | _, _ => none
abbrev G_spec_l1Number (k : Nat) : FuncId → Option (Summ K TyK) := lookT []
abbrev L_spec_l1Number : List (Nat × Cut K TyK (ByteArray)) := [(3, C_spec_l1Number_3)]
theorem c_spec_l1Number_3 (k : Nat) (x0 : Int) (x1 : Int) (x2 : ByteArray) (x3 : Int) : run cod T (G_spec_l1Number k) (lam L_spec_l1Number k) (cutsOf L_spec_l1Number) 0 (finish cod T false 0 [.tmp 4] D_spec_l1Number) 4000 true (todoAt 3 (bodyOf Try.f38)) (envOf [0, 1, 5, 6] [.lit (.int .i64 x0), .lit (.int .i64 x1), .lit (.string x2), .lit (.int .i64 x3)]) [] = spec_l1Number_l3 (k + 1) x0 x1 x2 x3 := by kernel_rfl
theorem e_spec_l1Number (k : Nat) (a0 : Int) (a1 : Int) : run cod T (G_spec_l1Number k) (lam L_spec_l1Number k) (cutsOf L_spec_l1Number) 0 (finish cod T false 0 [.tmp 4] D_spec_l1Number) 4000 false [.code (bodyOf Try.f38)] (envOf [0, 1] [.lit (.int .i64 a0), .lit (.int .i64 a1)]) [] = spec_l1Number k a0 a1 := by kernel_rfl
theorem ok_spec_l1Number (k : Nat) : SummOk Try.prog cod 38 (S_spec_l1Number k) := by
  refine summ_of (T := T) Try.f38 (G_spec_l1Number) L_spec_l1Number false [.tmp 4] 0 D_spec_l1Number mixed (fun k => Known.of tok eok codOk ?_) (fun k => QuietOk.of ?_) Try.func38 (by kernel_rfl) (by kernel_rfl) (by kernel_rfl) (by kernel_rfl) (by kernel_rfl) ?_ ?_ ?_
  · exact all_nil
  · exact all_nil
  · intro v os r h
    unfold D_spec_l1Number at h
    split at h <;> first | (cases h; rfl) | cases h
  · refine all_cons ?_ (all_nil)
    · refine ⟨fun vs os => ?_, by kernel_rfl, fun k vs os r h => ?_⟩
      · show C_spec_l1Number_3.fn 0 vs os = none
        unfold C_spec_l1Number_3; dsimp only; split <;> rfl
      · change C_spec_l1Number_3.fn (k + 1) vs os = some r at h
        unfold C_spec_l1Number_3 at h; dsimp only at h
        split at h
        · exact ⟨4000, (c_spec_l1Number_3 k _ _ _ _).trans h⟩
        · cases h
  · intro args os r h
    change (S_spec_l1Number k).run args os = some r at h
    unfold S_spec_l1Number at h; dsimp only at h
    split at h
    · exact ⟨Nat.le_of_ble_eq_true (by kernel_rfl), rfl, k, 4000, (e_spec_l1Number k _ _).trans h⟩
    · cases h
def spec_l2Body_l7 : Nat → ByteArray → Int → Int → Int → Int → Int → Int → Int → Int → Bool → ByteArray → Option (ByteArray)
  | 0, _, _, _, _, _, _, _, _, _, _, _ => none
  | k + 1, x0, x1, x2, x3, x4, x5, x6, x7, x8, x9, x10 =>
    (spec_l1Number k x8 4).bind fun r12 =>
    (sadd x0 r12).bind fun t13 =>
    (spec_l1Number k x1 1).bind fun r14 =>
    (sadd t13 r14).bind fun t15 =>
    (sadd t15 x10).bind fun t16 =>
    some t16
def spec_l2Body (k : Nat) (a0 : DPacket) : Option (ByteArray) :=
  (spec_l1Number k a0.Kind 1).bind fun r1 =>
  (spec_l1Number k a0.From 1).bind fun r2 =>
  (sadd r1 r2).bind fun t3 =>
  (spec_l1Number k a0.Mine 2).bind fun r4 =>
  (sadd t3 r4).bind fun t5 =>
  (spec_l1Number k a0.Yours 2).bind fun r6 =>
  (sadd t5 r6).bind fun t7 =>
  match (a0.Kind == 1) with
  | true =>
    (spec_l1Number k a0.Next 4).bind fun r8 =>
    (sadd t7 r8).bind fun t9 =>
    (spec_l1Number k a0.Mask 1).bind fun r10 =>
    (sadd t9 r10).bind fun t11 =>
    some t11
  | false =>
    match a0.Last with
    | true =>
      spec_l2Body_l7 k t7 1 a0.Kind a0.From a0.Mine a0.Yours a0.Next a0.Mask a0.Seq a0.Last a0.Part
    | false =>
      spec_l2Body_l7 k t7 0 a0.Kind a0.From a0.Mine a0.Yours a0.Next a0.Mask a0.Seq a0.Last a0.Part
def S_spec_l2Body (k : Nat) : Summ K TyK where
  R := ByteArray
  modes := [.bo]
  run := fun args objs => match args, objs with
    | [.agg [.lit (.int .i64 v1), .lit (.int .i64 v2), .lit (.int .i64 v3), .lit (.int .i64 v4), .lit (.int .i64 v5), .lit (.int .i64 v6), .lit (.int .i64 v7), .lit (.bool v8), .lit (.string v9)]], [] => spec_l2Body k (⟨v1, v2, v3, v4, v5, v6, v7, v8, v9⟩ : DPacket)
    | _, _ => none
  ret := fun r => (.lit (.string r), [])
  quiet := true
def D_spec_l2Body (v : V) (os : Objs K TyK) : Option (ByteArray) :=
  match v, os with
  | .lit (.string v1), [] => some v1
  | _, _ => none
def C_spec_l2Body_7 : Cut K TyK (ByteArray) where
  slots := [1, 3, 4]
  fn := fun k vs os => match vs, os with
    | [.ref 0 0, .lit (.string x0), .lit (.int .i64 x1)], [.box [.lit (.int .i64 x2), .lit (.int .i64 x3), .lit (.int .i64 x4), .lit (.int .i64 x5), .lit (.int .i64 x6), .lit (.int .i64 x7), .lit (.int .i64 x8), .lit (.bool x9), .lit (.string x10)]] => spec_l2Body_l7 k x0 x1 x2 x3 x4 x5 x6 x7 x8 x9 x10
    | _, _ => none
abbrev G_spec_l2Body (k : Nat) : FuncId → Option (Summ K TyK) := lookT [(38, S_spec_l1Number k)]
abbrev L_spec_l2Body : List (Nat × Cut K TyK (ByteArray)) := [(7, C_spec_l2Body_7)]
theorem c_spec_l2Body_7 (k : Nat) (x0 : ByteArray) (x1 : Int) (x2 : Int) (x3 : Int) (x4 : Int) (x5 : Int) (x6 : Int) (x7 : Int) (x8 : Int) (x9 : Bool) (x10 : ByteArray) : run cod T (G_spec_l2Body k) (lam L_spec_l2Body k) (cutsOf L_spec_l2Body) 0 (finish cod T false 0 [.tmp 2] D_spec_l2Body) 4000 true (todoAt 7 (bodyOf Try.f32)) (envOf [1, 3, 4] [.ref 0 0, .lit (.string x0), .lit (.int .i64 x1)]) [.box [.lit (.int .i64 x2), .lit (.int .i64 x3), .lit (.int .i64 x4), .lit (.int .i64 x5), .lit (.int .i64 x6), .lit (.int .i64 x7), .lit (.int .i64 x8), .lit (.bool x9), .lit (.string x10)]] = spec_l2Body_l7 (k + 1) x0 x1 x2 x3 x4 x5 x6 x7 x8 x9 x10 := by kernel_rfl
theorem e_spec_l2Body (k : Nat) (a0 : DPacket) : run cod T (G_spec_l2Body k) (lam L_spec_l2Body k) (cutsOf L_spec_l2Body) 0 (finish cod T false 0 [.tmp 2] D_spec_l2Body) 4000 false [.code (bodyOf Try.f32)] (envOf [0] [.agg [.lit (.int .i64 a0.Kind), .lit (.int .i64 a0.From), .lit (.int .i64 a0.Mine), .lit (.int .i64 a0.Yours), .lit (.int .i64 a0.Next), .lit (.int .i64 a0.Mask), .lit (.int .i64 a0.Seq), .lit (.bool a0.Last), .lit (.string a0.Part)]]) [] = spec_l2Body k a0 := by kernel_rfl
theorem ok_spec_l2Body (k : Nat) : SummOk Try.prog cod 32 (S_spec_l2Body k) := by
  refine summ_of (T := T) Try.f32 (G_spec_l2Body) L_spec_l2Body false [.tmp 2] 0 D_spec_l2Body mixed (fun k => Known.of tok eok codOk ?_) (fun k => QuietOk.of ?_) Try.func32 (by kernel_rfl) (by kernel_rfl) (by kernel_rfl) (by kernel_rfl) (by kernel_rfl) ?_ ?_ ?_
  · exact all_cons (ok_spec_l1Number k) (all_nil)
  · exact all_cons (fun h r => ⟨rfl, rfl⟩) (all_nil)
  · intro v os r h
    unfold D_spec_l2Body at h
    split at h <;> first | (cases h; rfl) | cases h
  · refine all_cons ?_ (all_nil)
    · refine ⟨fun vs os => ?_, by kernel_rfl, fun k vs os r h => ?_⟩
      · show C_spec_l2Body_7.fn 0 vs os = none
        unfold C_spec_l2Body_7; dsimp only; split <;> rfl
      · change C_spec_l2Body_7.fn (k + 1) vs os = some r at h
        unfold C_spec_l2Body_7 at h; dsimp only at h
        split at h
        · exact ⟨4000, (c_spec_l2Body_7 k _ _ _ _ _ _ _ _ _ _ _).trans h⟩
        · cases h
  · intro args os r h
    change (S_spec_l2Body k).run args os = some r at h
    unfold S_spec_l2Body at h; dsimp only at h
    split at h
    · exact ⟨Nat.le_of_ble_eq_true (by kernel_rfl), rfl, k, 4000, (e_spec_l2Body k ⟨_, _, _, _, _, _, _, _, _⟩).trans h⟩
    · cases h
def spec_FormPacket (k : Nat) (a0 : DPacket) (a1 : ByteArray) (a2 : Int) : Option (ByteArray) :=
  (spec_l2Ok k a0).bind fun r1 =>
  match (!r1) with
  | true =>
    some (⟨#[]⟩ : ByteArray)
  | false =>
    (spec_l1In k a2 1 8).bind fun r2 =>
    match (!r2) with
    | true =>
      some (⟨#[]⟩ : ByteArray)
    | false =>
      match (decide ((a1.size : Int) > 30)) with
      | true =>
        some (⟨#[]⟩ : ByteArray)
      | false =>
        (spec_l2Body k a0).bind fun r3 =>
        (spec_Tag k r3 a1 a2).bind fun r4 =>
        (spec_l2Body k a0).bind fun r5 =>
        (sadd r4 r5).bind fun t6 =>
        some t6
def S_spec_FormPacket (k : Nat) : Summ K TyK where
  R := ByteArray
  modes := [.bo, .bo, .bo]
  run := fun args objs => match args, objs with
    | [.agg [.lit (.int .i64 v1), .lit (.int .i64 v2), .lit (.int .i64 v3), .lit (.int .i64 v4), .lit (.int .i64 v5), .lit (.int .i64 v6), .lit (.int .i64 v7), .lit (.bool v8), .lit (.string v9)], .lit (.string v10), .lit (.int .i64 v11)], [] => spec_FormPacket k (⟨v1, v2, v3, v4, v5, v6, v7, v8, v9⟩ : DPacket) v10 v11
    | _, _ => none
  ret := fun r => (.lit (.string r), [])
  quiet := true
def D_spec_FormPacket (v : V) (os : Objs K TyK) : Option (ByteArray) :=
  match v, os with
  | .lit (.string v1), [] => some v1
  | _, _ => none
abbrev G_spec_FormPacket (k : Nat) : FuncId → Option (Summ K TyK) := lookT [(31, S_spec_l2Ok k), (24, S_spec_l1In k), (32, S_spec_l2Body k), (8, S_spec_Tag k)]
abbrev L_spec_FormPacket : List (Nat × Cut K TyK (ByteArray)) := []
theorem e_spec_FormPacket (k : Nat) (a0 : DPacket) (a1 : ByteArray) (a2 : Int) : run cod T (G_spec_FormPacket k) (lam L_spec_FormPacket k) (cutsOf L_spec_FormPacket) 0 (finish cod T false 0 [.tmp 6] D_spec_FormPacket) 4000 false [.code (bodyOf Try.f21)] (envOf [0, 1, 2] [.agg [.lit (.int .i64 a0.Kind), .lit (.int .i64 a0.From), .lit (.int .i64 a0.Mine), .lit (.int .i64 a0.Yours), .lit (.int .i64 a0.Next), .lit (.int .i64 a0.Mask), .lit (.int .i64 a0.Seq), .lit (.bool a0.Last), .lit (.string a0.Part)], .lit (.string a1), .lit (.int .i64 a2)]) [] = spec_FormPacket k a0 a1 a2 := by kernel_rfl
theorem ok_spec_FormPacket (k : Nat) : SummOk Try.prog cod 21 (S_spec_FormPacket k) := by
  refine summ_of (T := T) Try.f21 (G_spec_FormPacket) L_spec_FormPacket false [.tmp 6] 0 D_spec_FormPacket mixed (fun k => Known.of tok eok codOk ?_) (fun k => QuietOk.of ?_) Try.func21 (by kernel_rfl) (by kernel_rfl) (by kernel_rfl) (by kernel_rfl) (by kernel_rfl) ?_ ?_ ?_
  · exact all_cons (ok_spec_l2Ok k) (all_cons (ok_spec_l1In k) (all_cons (ok_spec_l2Body k) (all_cons (ok_spec_Tag k) (all_nil))))
  · exact all_cons (fun h r => ⟨rfl, rfl⟩) (all_cons (fun h r => ⟨rfl, rfl⟩) (all_cons (fun h r => ⟨rfl, rfl⟩) (all_cons (fun h r => ⟨rfl, rfl⟩) (all_nil))))
  · intro v os r h
    unfold D_spec_FormPacket at h
    split at h <;> first | (cases h; rfl) | cases h
  · refine all_nil
  · intro args os r h
    change (S_spec_FormPacket k).run args os = some r at h
    unfold S_spec_FormPacket at h; dsimp only at h
    split at h
    · exact ⟨Nat.le_of_ble_eq_true (by kernel_rfl), rfl, k, 4000, (e_spec_FormPacket k ⟨_, _, _, _, _, _, _, _, _⟩ _ _).trans h⟩
    · cases h
def impl_validPacket (k : Nat) (a0 : DPacket) : Option (Bool) :=
  match (a0.From != 1) with
  | true =>
    match (a0.From != 2) with
    | true =>
      some false
    | false =>
      (impl_in k a0.Mine 1 1000).bind fun r1 =>
      match (!r1) with
      | true =>
        some false
      | false =>
        (impl_in k a0.Yours 0 1000).bind fun r2 =>
        match (!r2) with
        | true =>
          some false
        | false =>
          match (a0.Kind == 1) with
          | true =>
            (impl_in k a0.Next 0 1000000).bind fun r3 =>
            match r3 with
            | true =>
              (impl_in k a0.Mask 0 255).bind fun r4 =>
              match r4 with
              | true =>
                match (a0.Seq == 0) with
                | true =>
                  match (!a0.Last) with
                  | true =>
                    some (a0.Part.toList == (⟨#[]⟩ : ByteArray).toList)
                  | false =>
                    some false
                | false =>
                  some false
              | false =>
                some false
            | false =>
              some false
          | false =>
            match (a0.Kind == 2) with
            | true =>
              match (a0.Next == 0) with
              | true =>
                match (a0.Mask == 0) with
                | true =>
                  (impl_in k a0.Seq 0 999999).bind fun r5 =>
                  match r5 with
                  | true =>
                    some (decide ((a0.Part.size : Int) ≤ 20))
                  | false =>
                    some false
                | false =>
                  some false
              | false =>
                some false
            | false =>
              some false
  | false =>
    (impl_in k a0.Mine 1 1000).bind fun r6 =>
    match (!r6) with
    | true =>
      some false
    | false =>
      (impl_in k a0.Yours 0 1000).bind fun r7 =>
      match (!r7) with
      | true =>
        some false
      | false =>
        match (a0.Kind == 1) with
        | true =>
          (impl_in k a0.Next 0 1000000).bind fun r8 =>
          match r8 with
          | true =>
            (impl_in k a0.Mask 0 255).bind fun r9 =>
            match r9 with
            | true =>
              match (a0.Seq == 0) with
              | true =>
                match (!a0.Last) with
                | true =>
                  some (a0.Part.toList == (⟨#[]⟩ : ByteArray).toList)
                | false =>
                  some false
              | false =>
                some false
            | false =>
              some false
          | false =>
            some false
        | false =>
          match (a0.Kind == 2) with
          | true =>
            match (a0.Next == 0) with
            | true =>
              match (a0.Mask == 0) with
              | true =>
                (impl_in k a0.Seq 0 999999).bind fun r10 =>
                match r10 with
                | true =>
                  some (decide ((a0.Part.size : Int) ≤ 20))
                | false =>
                  some false
              | false =>
                some false
            | false =>
              some false
          | false =>
            some false
def S_impl_validPacket (k : Nat) : Summ K TyK where
  R := Bool
  modes := [.bo]
  run := fun args objs => match args, objs with
    | [.agg [.lit (.int .i64 v1), .lit (.int .i64 v2), .lit (.int .i64 v3), .lit (.int .i64 v4), .lit (.int .i64 v5), .lit (.int .i64 v6), .lit (.int .i64 v7), .lit (.bool v8), .lit (.string v9)]], [] => impl_validPacket k (⟨v1, v2, v3, v4, v5, v6, v7, v8, v9⟩ : DPacket)
    | _, _ => none
  ret := fun r => (.lit (.bool r), [])
  quiet := true
def D_impl_validPacket (v : V) (os : Objs K TyK) : Option (Bool) :=
  match v, os with
  | .lit (.bool v1), [] => some v1
  | _, _ => none
abbrev G_impl_validPacket (k : Nat) : FuncId → Option (Summ K TyK) := lookT [(29, S_impl_in k)]
abbrev L_impl_validPacket : List (Nat × Cut K TyK (Bool)) := []
theorem e_impl_validPacket (k : Nat) (a0 : DPacket) : run cod T (G_impl_validPacket k) (lam L_impl_validPacket k) (cutsOf L_impl_validPacket) 0 (finish cod T false 0 [.tmp 2] D_impl_validPacket) 4000 false [.code (bodyOf Try.f33)] (envOf [0] [.agg [.lit (.int .i64 a0.Kind), .lit (.int .i64 a0.From), .lit (.int .i64 a0.Mine), .lit (.int .i64 a0.Yours), .lit (.int .i64 a0.Next), .lit (.int .i64 a0.Mask), .lit (.int .i64 a0.Seq), .lit (.bool a0.Last), .lit (.string a0.Part)]]) [] = impl_validPacket k a0 := by kernel_rfl
theorem ok_impl_validPacket (k : Nat) : SummOk Try.prog cod 33 (S_impl_validPacket k) := by
  refine summ_of (T := T) Try.f33 (G_impl_validPacket) L_impl_validPacket false [.tmp 2] 0 D_impl_validPacket mixed (fun k => Known.of tok eok codOk ?_) (fun k => QuietOk.of ?_) Try.func33 (by kernel_rfl) (by kernel_rfl) (by kernel_rfl) (by kernel_rfl) (by kernel_rfl) ?_ ?_ ?_
  · exact all_cons (ok_impl_in k) (all_nil)
  · exact all_cons (fun h r => ⟨rfl, rfl⟩) (all_nil)
  · intro v os r h
    unfold D_impl_validPacket at h
    split at h <;> first | (cases h; rfl) | cases h
  · refine all_nil
  · intro args os r h
    change (S_impl_validPacket k).run args os = some r at h
    unfold S_impl_validPacket at h; dsimp only at h
    split at h
    · exact ⟨Nat.le_of_ble_eq_true (by kernel_rfl), rfl, k, 4000, (e_impl_validPacket k ⟨_, _, _, _, _, _, _, _, _⟩).trans h⟩
    · cases h
def impl_be_l3 : Nat → Int → Int → List Int → Option (ByteArray)
  | 0, _, _, _ => none
  | k + 1, x0, x1, x2 =>
    match (decide (x1 ≥ 0)) with
    | true =>
      (idx x2 x1).bind fun _ =>
      (x2[(Int.toNat x1)]?).bind fun y2 =>
      (shift .shr .i64 x0 8).bind fun s3 =>
      impl_be_l3 k s3 (IntKind.wrap .i64 (x1 - 1)) (x2.set (Int.toNat x1) (IntKind.wrap .u8 x0))
    | false =>
      some (bstr x2)
def impl_be (k : Nat) (a0 : Int) (a1 : Int) : Option (ByteArray) :=
  (if (a1 : Int) = a1 then room 1 a1 else none).bind fun n1 =>
  impl_be_l3 k a0 (IntKind.wrap .i64 (a1 - 1)) (List.replicate n1 0)
def S_impl_be (k : Nat) : Summ K TyK where
  R := ByteArray
  modes := [.bo, .bo]
  run := fun args objs => match args, objs with
    | [.lit (.int .i64 v1), .lit (.int .i64 v2)], [] => impl_be k v1 v2
    | _, _ => none
  ret := fun r => (.lit (.string r), [])
  quiet := true
def D_impl_be (v : V) (os : Objs K TyK) : Option (ByteArray) :=
  match v, os with
  | .lit (.string v1), [] => some v1
  | _, _ => none
def C_impl_be_3 : Cut K TyK (ByteArray) where
  slots := [0, 5, 6]
  fn := fun k vs os => match vs, os with
    | [.lit (.int .i64 x0), .own 0, .lit (.int .i64 x1)], [.sl .byte x2] => impl_be_l3 k x0 x1 x2
    | _, _ => none
abbrev G_impl_be (k : Nat) : FuncId → Option (Summ K TyK) := lookT []
abbrev L_impl_be : List (Nat × Cut K TyK (ByteArray)) := [(3, C_impl_be_3)]
theorem c_impl_be_3 (k : Nat) (x0 : Int) (x1 : Int) (x2 : List Int) : run cod T (G_impl_be k) (lam L_impl_be k) (cutsOf L_impl_be) 0 (finish cod T false 0 [.tmp 4] D_impl_be) 4000 true (todoAt 3 (bodyOf Try.f34)) (envOf [0, 5, 6] [.lit (.int .i64 x0), .own 0, .lit (.int .i64 x1)]) [.sl .byte x2] = impl_be_l3 (k + 1) x0 x1 x2 := by kernel_rfl
theorem e_impl_be (k : Nat) (a0 : Int) (a1 : Int) : run cod T (G_impl_be k) (lam L_impl_be k) (cutsOf L_impl_be) 0 (finish cod T false 0 [.tmp 4] D_impl_be) 4000 false [.code (bodyOf Try.f34)] (envOf [0, 1] [.lit (.int .i64 a0), .lit (.int .i64 a1)]) [] = impl_be k a0 a1 := by kernel_rfl
theorem ok_impl_be (k : Nat) : SummOk Try.prog cod 34 (S_impl_be k) := by
  refine summ_of (T := T) Try.f34 (G_impl_be) L_impl_be false [.tmp 4] 0 D_impl_be mixed (fun k => Known.of tok eok codOk ?_) (fun k => QuietOk.of ?_) Try.func34 (by kernel_rfl) (by kernel_rfl) (by kernel_rfl) (by kernel_rfl) (by kernel_rfl) ?_ ?_ ?_
  · exact all_nil
  · exact all_nil
  · intro v os r h
    unfold D_impl_be at h
    split at h <;> first | (cases h; rfl) | cases h
  · refine all_cons ?_ (all_nil)
    · refine ⟨fun vs os => ?_, by kernel_rfl, fun k vs os r h => ?_⟩
      · show C_impl_be_3.fn 0 vs os = none
        unfold C_impl_be_3; dsimp only; split <;> rfl
      · change C_impl_be_3.fn (k + 1) vs os = some r at h
        unfold C_impl_be_3 at h; dsimp only at h
        split at h
        · exact ⟨4000, (c_impl_be_3 k _ _ _).trans h⟩
        · cases h
  · intro args os r h
    change (S_impl_be k).run args os = some r at h
    unfold S_impl_be at h; dsimp only at h
    split at h
    · exact ⟨Nat.le_of_ble_eq_true (by kernel_rfl), rfl, k, 4000, (e_impl_be k _ _).trans h⟩
    · cases h
mutual
def impl_FormPacket_l10 : Nat → ByteArray → Int → ByteArray → Option (ByteArray)
  | 0, _, _, _ => none
  | k + 1, x0, x1, x2 =>
    (impl_Tag k x2 x0 x1).bind fun r13 =>
    (sadd r13 x2).bind fun t14 =>
    some t14
def impl_FormPacket_l9 : Nat → ByteArray → Int → ByteArray → Int → Int → Int → Int → Int → Int → Int → Int → Bool → ByteArray → Option (ByteArray)
  | 0, _, _, _, _, _, _, _, _, _, _, _, _, _ => none
  | k + 1, x0, x1, x2, x3, x4, x5, x6, x7, x8, x9, x10, x11, x12 =>
    (impl_be k x10 4).bind fun r15 =>
    (impl_be k x3 1).bind fun r16 =>
    (sadd r15 r16).bind fun t17 =>
    (sadd t17 x12).bind fun t18 =>
    (sadd x2 t18).bind fun t19 =>
    impl_FormPacket_l10 k x0 x1 t19
end
def impl_FormPacket (k : Nat) (a0 : DPacket) (a1 : ByteArray) (a2 : Int) : Option (ByteArray) :=
  (impl_validPacket k a0).bind fun r1 =>
  match (!r1) with
  | true =>
    some (⟨#[]⟩ : ByteArray)
  | false =>
    match (decide (a2 < 1)) with
    | true =>
      some (⟨#[]⟩ : ByteArray)
    | false =>
      match (decide (a2 > 8)) with
      | true =>
        some (⟨#[]⟩ : ByteArray)
      | false =>
        match (decide ((a1.size : Int) > 30)) with
        | true =>
          some (⟨#[]⟩ : ByteArray)
        | false =>
          (impl_be k a0.Kind 1).bind fun r2 =>
          (impl_be k a0.From 1).bind fun r3 =>
          (sadd r2 r3).bind fun t4 =>
          (impl_be k a0.Mine 2).bind fun r5 =>
          (sadd t4 r5).bind fun t6 =>
          (impl_be k a0.Yours 2).bind fun r7 =>
          (sadd t6 r7).bind fun t8 =>
          match (a0.Kind == 1) with
          | true =>
            (impl_be k a0.Next 4).bind fun r9 =>
            (impl_be k a0.Mask 1).bind fun r10 =>
            (sadd r9 r10).bind fun t11 =>
            (sadd t8 t11).bind fun t12 =>
            impl_FormPacket_l10 k a1 a2 t12
          | false =>
            match a0.Last with
            | true =>
              impl_FormPacket_l9 k a1 a2 t8 1 a0.Kind a0.From a0.Mine a0.Yours a0.Next a0.Mask a0.Seq a0.Last a0.Part
            | false =>
              impl_FormPacket_l9 k a1 a2 t8 0 a0.Kind a0.From a0.Mine a0.Yours a0.Next a0.Mask a0.Seq a0.Last a0.Part
def S_impl_FormPacket (k : Nat) : Summ K TyK where
  R := ByteArray
  modes := [.bo, .bo, .bo]
  run := fun args objs => match args, objs with
    | [.agg [.lit (.int .i64 v1), .lit (.int .i64 v2), .lit (.int .i64 v3), .lit (.int .i64 v4), .lit (.int .i64 v5), .lit (.int .i64 v6), .lit (.int .i64 v7), .lit (.bool v8), .lit (.string v9)], .lit (.string v10), .lit (.int .i64 v11)], [] => impl_FormPacket k (⟨v1, v2, v3, v4, v5, v6, v7, v8, v9⟩ : DPacket) v10 v11
    | _, _ => none
  ret := fun r => (.lit (.string r), [])
  quiet := true
def D_impl_FormPacket (v : V) (os : Objs K TyK) : Option (ByteArray) :=
  match v, os with
  | .lit (.string v1), [] => some v1
  | _, _ => none
def C_impl_FormPacket_10 : Cut K TyK (ByteArray) where
  slots := [1, 2, 7]
  fn := fun k vs os => match vs, os with
    | [.lit (.string x0), .lit (.int .i64 x1), .lit (.string x2)], [] => impl_FormPacket_l10 k x0 x1 x2
    | _, _ => none
def C_impl_FormPacket_9 : Cut K TyK (ByteArray) where
  slots := [1, 2, 3, 7, 8]
  fn := fun k vs os => match vs, os with
    | [.lit (.string x0), .lit (.int .i64 x1), .ref 0 0, .lit (.string x2), .lit (.int .i64 x3)], [.box [.lit (.int .i64 x4), .lit (.int .i64 x5), .lit (.int .i64 x6), .lit (.int .i64 x7), .lit (.int .i64 x8), .lit (.int .i64 x9), .lit (.int .i64 x10), .lit (.bool x11), .lit (.string x12)]] => impl_FormPacket_l9 k x0 x1 x2 x3 x4 x5 x6 x7 x8 x9 x10 x11 x12
    | _, _ => none
abbrev G_impl_FormPacket (k : Nat) : FuncId → Option (Summ K TyK) := lookT [(33, S_impl_validPacket k), (34, S_impl_be k), (9, S_impl_Tag k)]
abbrev L_impl_FormPacket : List (Nat × Cut K TyK (ByteArray)) := [(10, C_impl_FormPacket_10), (9, C_impl_FormPacket_9)]
theorem c_impl_FormPacket_10 (k : Nat) (x0 : ByteArray) (x1 : Int) (x2 : ByteArray) : run cod T (G_impl_FormPacket k) (lam L_impl_FormPacket k) (cutsOf L_impl_FormPacket) 0 (finish cod T false 0 [.tmp 6] D_impl_FormPacket) 4000 true (todoAt 10 (bodyOf Try.f23)) (envOf [1, 2, 7] [.lit (.string x0), .lit (.int .i64 x1), .lit (.string x2)]) [] = impl_FormPacket_l10 (k + 1) x0 x1 x2 := by kernel_rfl
theorem c_impl_FormPacket_9 (k : Nat) (x0 : ByteArray) (x1 : Int) (x2 : ByteArray) (x3 : Int) (x4 : Int) (x5 : Int) (x6 : Int) (x7 : Int) (x8 : Int) (x9 : Int) (x10 : Int) (x11 : Bool) (x12 : ByteArray) : run cod T (G_impl_FormPacket k) (lam L_impl_FormPacket k) (cutsOf L_impl_FormPacket) 0 (finish cod T false 0 [.tmp 6] D_impl_FormPacket) 4000 true (todoAt 9 (bodyOf Try.f23)) (envOf [1, 2, 3, 7, 8] [.lit (.string x0), .lit (.int .i64 x1), .ref 0 0, .lit (.string x2), .lit (.int .i64 x3)]) [.box [.lit (.int .i64 x4), .lit (.int .i64 x5), .lit (.int .i64 x6), .lit (.int .i64 x7), .lit (.int .i64 x8), .lit (.int .i64 x9), .lit (.int .i64 x10), .lit (.bool x11), .lit (.string x12)]] = impl_FormPacket_l9 (k + 1) x0 x1 x2 x3 x4 x5 x6 x7 x8 x9 x10 x11 x12 := by kernel_rfl
theorem e_impl_FormPacket (k : Nat) (a0 : DPacket) (a1 : ByteArray) (a2 : Int) : run cod T (G_impl_FormPacket k) (lam L_impl_FormPacket k) (cutsOf L_impl_FormPacket) 0 (finish cod T false 0 [.tmp 6] D_impl_FormPacket) 4000 false [.code (bodyOf Try.f23)] (envOf [0, 1, 2] [.agg [.lit (.int .i64 a0.Kind), .lit (.int .i64 a0.From), .lit (.int .i64 a0.Mine), .lit (.int .i64 a0.Yours), .lit (.int .i64 a0.Next), .lit (.int .i64 a0.Mask), .lit (.int .i64 a0.Seq), .lit (.bool a0.Last), .lit (.string a0.Part)], .lit (.string a1), .lit (.int .i64 a2)]) [] = impl_FormPacket k a0 a1 a2 := by kernel_rfl
theorem ok_impl_FormPacket (k : Nat) : SummOk Try.prog cod 23 (S_impl_FormPacket k) := by
  refine summ_of (T := T) Try.f23 (G_impl_FormPacket) L_impl_FormPacket false [.tmp 6] 0 D_impl_FormPacket mixed (fun k => Known.of tok eok codOk ?_) (fun k => QuietOk.of ?_) Try.func23 (by kernel_rfl) (by kernel_rfl) (by kernel_rfl) (by kernel_rfl) (by kernel_rfl) ?_ ?_ ?_
  · exact all_cons (ok_impl_validPacket k) (all_cons (ok_impl_be k) (all_cons (ok_impl_Tag k) (all_nil)))
  · exact all_cons (fun h r => ⟨rfl, rfl⟩) (all_cons (fun h r => ⟨rfl, rfl⟩) (all_cons (fun h r => ⟨rfl, rfl⟩) (all_nil)))
  · intro v os r h
    unfold D_impl_FormPacket at h
    split at h <;> first | (cases h; rfl) | cases h
  · refine all_cons ?_ (all_cons ?_ (all_nil))
    · refine ⟨fun vs os => ?_, by kernel_rfl, fun k vs os r h => ?_⟩
      · show C_impl_FormPacket_10.fn 0 vs os = none
        unfold C_impl_FormPacket_10; dsimp only; split <;> rfl
      · change C_impl_FormPacket_10.fn (k + 1) vs os = some r at h
        unfold C_impl_FormPacket_10 at h; dsimp only at h
        split at h
        · exact ⟨4000, (c_impl_FormPacket_10 k _ _ _).trans h⟩
        · cases h
    · refine ⟨fun vs os => ?_, by kernel_rfl, fun k vs os r h => ?_⟩
      · show C_impl_FormPacket_9.fn 0 vs os = none
        unfold C_impl_FormPacket_9; dsimp only; split <;> rfl
      · change C_impl_FormPacket_9.fn (k + 1) vs os = some r at h
        unfold C_impl_FormPacket_9 at h; dsimp only at h
        split at h
        · exact ⟨4000, (c_impl_FormPacket_9 k _ _ _ _ _ _ _ _ _ _ _ _ _).trans h⟩
        · cases h
  · intro args os r h
    change (S_impl_FormPacket k).run args os = some r at h
    unfold S_impl_FormPacket at h; dsimp only at h
    split at h
    · exact ⟨Nat.le_of_ble_eq_true (by kernel_rfl), rfl, k, 4000, (e_impl_FormPacket k ⟨_, _, _, _, _, _, _, _, _⟩ _ _).trans h⟩
    · cases h
def laws_FnExactFormPacket (k : Nat) (a0 : DPacket) (a1 : ByteArray) (a2 : Int) : Option (Bool) :=
  match (decide ((a1.size : Int) > 1048576)) with
  | true =>
    some true
  | false =>
    (laws_szPacket k a0 1048576).bind fun r1 =>
    match (decide (r1 < 0)) with
    | true =>
      some true
    | false =>
      (laws_toPacket k a0).bind fun r2 =>
      (spec_FormPacket k r2 a1 a2).bind fun r3 =>
      (laws_toPacket k a0).bind fun r4 =>
      (impl_FormPacket k r4 a1 a2).bind fun r5 =>
      match (!(r5.toList == r3.toList)) with
      | true =>
        some false
      | false =>
        some true
def S_laws_FnExactFormPacket (k : Nat) : Summ K TyK where
  R := Bool
  modes := [.pe, .pe, .pe]
  run := fun args objs => match args, objs with
    | [.agg [.lit (.int .i64 v1), .lit (.int .i64 v2), .lit (.int .i64 v3), .lit (.int .i64 v4), .lit (.int .i64 v5), .lit (.int .i64 v6), .lit (.int .i64 v7), .lit (.bool v8), .lit (.string v9)], .lit (.string v10), .lit (.int .i64 v11)], [] => laws_FnExactFormPacket k (⟨v1, v2, v3, v4, v5, v6, v7, v8, v9⟩ : DPacket) v10 v11
    | _, _ => none
  ret := fun r => (.lit (.bool r), [])
  quiet := true
def D_laws_FnExactFormPacket (v : V) (os : Objs K TyK) : Option (Bool) :=
  match v, os with
  | .lit (.bool v1), [] => some v1
  | _, _ => none
abbrev G_laws_FnExactFormPacket (k : Nat) : FuncId → Option (Summ K TyK) := lookT [(20, S_laws_szPacket k), (22, S_laws_toPacket k), (21, S_spec_FormPacket k), (23, S_impl_FormPacket k)]
abbrev L_laws_FnExactFormPacket : List (Nat × Cut K TyK (Bool)) := []
theorem e_laws_FnExactFormPacket (k : Nat) (a0 : DPacket) (a1 : ByteArray) (a2 : Int) : run cod T (G_laws_FnExactFormPacket k) (lam L_laws_FnExactFormPacket k) (cutsOf L_laws_FnExactFormPacket) 0 (finish cod T false 0 [.tmp 6] D_laws_FnExactFormPacket) 4000 false [.code (bodyOf Try.f7)] (envOf [0, 1, 2] [.agg [.lit (.int .i64 a0.Kind), .lit (.int .i64 a0.From), .lit (.int .i64 a0.Mine), .lit (.int .i64 a0.Yours), .lit (.int .i64 a0.Next), .lit (.int .i64 a0.Mask), .lit (.int .i64 a0.Seq), .lit (.bool a0.Last), .lit (.string a0.Part)], .lit (.string a1), .lit (.int .i64 a2)]) [] = laws_FnExactFormPacket k a0 a1 a2 := by kernel_rfl
theorem ok_laws_FnExactFormPacket (k : Nat) : SummOk Try.prog cod 7 (S_laws_FnExactFormPacket k) := by
  refine summ_of (T := T) Try.f7 (G_laws_FnExactFormPacket) L_laws_FnExactFormPacket false [.tmp 6] 0 D_laws_FnExactFormPacket mixed (fun k => Known.of tok eok codOk ?_) (fun k => QuietOk.of ?_) Try.func7 (by kernel_rfl) (by kernel_rfl) (by kernel_rfl) (by kernel_rfl) (by kernel_rfl) ?_ ?_ ?_
  · exact all_cons (ok_laws_szPacket k) (all_cons (ok_laws_toPacket k) (all_cons (ok_spec_FormPacket k) (all_cons (ok_impl_FormPacket k) (all_nil))))
  · exact all_cons (fun h r => ⟨rfl, rfl⟩) (all_cons (fun h r => ⟨rfl, rfl⟩) (all_cons (fun h r => ⟨rfl, rfl⟩) (all_cons (fun h r => ⟨rfl, rfl⟩) (all_nil))))
  · intro v os r h
    unfold D_laws_FnExactFormPacket at h
    split at h <;> first | (cases h; rfl) | cases h
  · refine all_nil
  · intro args os r h
    change (S_laws_FnExactFormPacket k).run args os = some r at h
    unfold S_laws_FnExactFormPacket at h; dsimp only at h
    split at h
    · exact ⟨Nat.le_of_ble_eq_true (by kernel_rfl), rfl, k, 4000, (e_laws_FnExactFormPacket k ⟨_, _, _, _, _, _, _, _, _⟩ _ _).trans h⟩
    · cases h
end Km.X