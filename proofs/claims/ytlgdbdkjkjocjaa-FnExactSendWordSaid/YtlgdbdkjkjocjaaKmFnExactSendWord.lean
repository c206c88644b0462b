/- A part of the proof of FnExactSendWord: each function does what its reading says. There is no condition. -/
import Derived.Test.YtlgdbdkjkjocjaaKmSeat
import Derived.Test.YtlgdbdkjkjocjaaKxDef
namespace Km.X
open Go Km Go.Proofs
set_option linter.unusedVariables false
set_option maxRecDepth 100000
set_option maxHeartbeats 4000000
noncomputable def S_laws_szPart (k : Nat) : Summ K TyK where
  R := Int
  modes := [.bo, .bo]
  run := fun args objs => match args, objs with
    | [.agg [.lit (.string v1), .lit (.bool v2)], .lit (.int .i64 v3)], [] => laws_szPart k (⟨v1, v2⟩ : DPart) v3
    | _, _ => none
  ret := fun r => (.lit (.int .i64 r), [])
  quiet := true
noncomputable def D_laws_szPart (v : V) (os : Objs K TyK) : Option (Int) :=
  match v, os with
  | .lit (.int .i64 v1), [] => some v1
  | _, _ => none
noncomputable abbrev G_laws_szPart (k : Nat) : FuncId → Option (Summ K TyK) := lookT []
noncomputable abbrev L_laws_szPart : List (Nat × Cut K TyK (Int)) := []
theorem e_laws_szPart (k : Nat) (a0 : DPart) (a1 : Int) : run cod T (G_laws_szPart k) (lam L_laws_szPart k) (cutsOf L_laws_szPart) 0 (finish cod T false 0 [.tmp 4] D_laws_szPart) 4000 false [.code (bodyOf Try.f71)] (envOf [0, 1] [.agg [.lit (.string a0.Text), .lit (.bool a0.Last)], .lit (.int .i64 a1)]) [] = laws_szPart k a0 a1 := by kernel_rfl
theorem ok_laws_szPart (k : Nat) : SummOk Try.prog cod 71 (S_laws_szPart k) := by
  refine summ_of (T := T) Try.f71 (G_laws_szPart) L_laws_szPart false [.tmp 4] 0 D_laws_szPart mixed (fun k => Known.of tok eok codOk ?_) (fun k => QuietOk.of ?_) Try.func71 (by kernel_rfl) (by kernel_rfl) (by kernel_rfl) (by kernel_rfl) (by kernel_rfl) ?_ ?_ [] ?_
  · exact all_nil
  · exact all_nil
  · intro v os r h
    unfold D_laws_szPart at h
    split at h <;> first | (cases h; rfl) | cases h
  · refine all_nil
  · intro args os r h
    change (S_laws_szPart k).run args os = some r at h
    unfold S_laws_szPart at h; dsimp only at h
    split at h
    · exact ⟨Nat.le_of_ble_eq_true (by kernel_rfl), rfl, rfl, k, 4000, (e_laws_szPart k ⟨_, _⟩ _).trans h⟩
    · cases h
noncomputable def S_laws_toPart (k : Nat) : Summ K TyK where
  R := DPart
  modes := [.bo]
  run := fun args objs => match args, objs with
    | [.agg [.lit (.string v1), .lit (.bool v2)]], [] => laws_toPart k (⟨v1, v2⟩ : DPart)
    | _, _ => none
  ret := fun r => (.agg [.lit (.string r.Text), .lit (.bool r.Last)], [])
  quiet := true
noncomputable def D_laws_toPart (v : V) (os : Objs K TyK) : Option (DPart) :=
  match v, os with
  | .agg [.lit (.string v1), .lit (.bool v2)], [] => some (⟨v1, v2⟩ : DPart)
  | _, _ => none
noncomputable abbrev G_laws_toPart (k : Nat) : FuncId → Option (Summ K TyK) := lookT []
noncomputable abbrev L_laws_toPart : List (Nat × Cut K TyK (DPart)) := []
theorem e_laws_toPart (k : Nat) (a0 : DPart) : run cod T (G_laws_toPart k) (lam L_laws_toPart k) (cutsOf L_laws_toPart) 0 (finish cod T false 0 [.cell 2 60] D_laws_toPart) 4000 false [.code (bodyOf Try.f72)] (envOf [0] [.agg [.lit (.string a0.Text), .lit (.bool a0.Last)]]) [] = laws_toPart k a0 := by kernel_rfl
theorem ok_laws_toPart (k : Nat) : SummOk Try.prog cod 72 (S_laws_toPart k) := by
  refine summ_of (T := T) Try.f72 (G_laws_toPart) L_laws_toPart false [.cell 2 60] 0 D_laws_toPart mixed (fun k => Known.of tok eok codOk ?_) (fun k => QuietOk.of ?_) Try.func72 (by kernel_rfl) (by kernel_rfl) (by kernel_rfl) (by kernel_rfl) (by kernel_rfl) ?_ ?_ [] ?_
  · exact all_nil
  · exact all_nil
  · intro v os r h
    unfold D_laws_toPart at h
    split at h <;> first | (cases h; rfl) | cases h
  · refine all_nil
  · intro args os r h
    change (S_laws_toPart k).run args os = some r at h
    unfold S_laws_toPart at h; dsimp only at h
    split at h
    · exact ⟨Nat.le_of_ble_eq_true (by kernel_rfl), rfl, rfl, k, 4000, (e_laws_toPart k ⟨_, _⟩).trans h⟩
    · cases h
noncomputable def S_laws_eqPart (k : Nat) : Summ K TyK where
  R := Bool
  modes := [.bo, .bo]
  run := fun args objs => match args, objs with
    | [.agg [.lit (.string v1), .lit (.bool v2)], .agg [.lit (.string v3), .lit (.bool v4)]], [] => laws_eqPart k (⟨v1, v2⟩ : DPart) (⟨v3, v4⟩ : DPart)
    | _, _ => none
  ret := fun r => (.lit (.bool r), [])
  quiet := true
noncomputable def D_laws_eqPart (v : V) (os : Objs K TyK) : Option (Bool) :=
  match v, os with
  | .lit (.bool v1), [] => some v1
  | _, _ => none
noncomputable abbrev G_laws_eqPart (k : Nat) : FuncId → Option (Summ K TyK) := lookT []
noncomputable abbrev L_laws_eqPart : List (Nat × Cut K TyK (Bool)) := []
theorem e_laws_eqPart (k : Nat) (a0 : DPart) (a1 : DPart) : run cod T (G_laws_eqPart k) (lam L_laws_eqPart k) (cutsOf L_laws_eqPart) 0 (finish cod T false 0 [.tmp 4] D_laws_eqPart) 4000 false [.code (bodyOf Try.f73)] (envOf [0, 1] [.agg [.lit (.string a0.Text), .lit (.bool a0.Last)], .agg [.lit (.string a1.Text), .lit (.bool a1.Last)]]) [] = laws_eqPart k a0 a1 := by kernel_rfl
theorem ok_laws_eqPart (k : Nat) : SummOk Try.prog cod 73 (S_laws_eqPart k) := by
  refine summ_of (T := T) Try.f73 (G_laws_eqPart) L_laws_eqPart false [.tmp 4] 0 D_laws_eqPart mixed (fun k => Known.of tok eok codOk ?_) (fun k => QuietOk.of ?_) Try.func73 (by kernel_rfl) (by kernel_rfl) (by kernel_rfl) (by kernel_rfl) (by kernel_rfl) ?_ ?_ [] ?_
  · exact all_nil
  · exact all_nil
  · intro v os r h
    unfold D_laws_eqPart at h
    split at h <;> first | (cases h; rfl) | cases h
  · refine all_nil
  · intro args os r h
    change (S_laws_eqPart k).run args os = some r at h
    unfold S_laws_eqPart at h; dsimp only at h
    split at h
    · exact ⟨Nat.le_of_ble_eq_true (by kernel_rfl), rfl, rfl, k, 4000, (e_laws_eqPart k ⟨_, _⟩ ⟨_, _⟩).trans h⟩
    · cases h
noncomputable def S_laws_markText (k : Nat) : Summ K TyK where
  R := ByteArray
  modes := [.bo]
  run := fun args objs => match args, objs with
    | [.lit (.int .i64 v1)], [] => laws_markText k v1
    | _, _ => none
  ret := fun r => (.lit (.string r), [])
  quiet := true
noncomputable def D_laws_markText (v : V) (os : Objs K TyK) : Option (ByteArray) :=
  match v, os with
  | .lit (.string v1), [] => some v1
  | _, _ => none
noncomputable def C_laws_markText_4 : Cut K TyK (ByteArray) where
  slots := [0, 3]
  fn := fun k vs os => match vs, os with
    | [.lit (.int .i64 x0), .lit (.string x1)], [] => laws_markText_l4 k x0 x1
    | _, _ => none
noncomputable abbrev G_laws_markText (k : Nat) : FuncId → Option (Summ K TyK) := lookT []
noncomputable abbrev L_laws_markText : List (Nat × Cut K TyK (ByteArray)) := [(4, C_laws_markText_4)]
theorem c_laws_markText_4 (k : Nat) (x0 : Int) (x1 : ByteArray) : run cod T (G_laws_markText k) (lam L_laws_markText k) (cutsOf L_laws_markText) 0 (finish cod T false 0 [.tmp 2] D_laws_markText) 4000 true (todoAt 4 (bodyOf Try.f74)) (envOf [0, 3] [.lit (.int .i64 x0), .lit (.string x1)]) [] = laws_markText_l4 (k + 1) x0 x1 := by kernel_rfl
theorem e_laws_markText (k : Nat) (a0 : Int) : run cod T (G_laws_markText k) (lam L_laws_markText k) (cutsOf L_laws_markText) 0 (finish cod T false 0 [.tmp 2] D_laws_markText) 4000 false [.code (bodyOf Try.f74)] (envOf [0] [.lit (.int .i64 a0)]) [] = laws_markText k a0 := by kernel_rfl
theorem ok_laws_markText (k : Nat) : SummOk Try.prog cod 74 (S_laws_markText k) := by
  refine summ_of (T := T) Try.f74 (G_laws_markText) L_laws_markText false [.tmp 2] 0 D_laws_markText mixed (fun k => Known.of tok eok codOk ?_) (fun k => QuietOk.of ?_) Try.func74 (by kernel_rfl) (by kernel_rfl) (by kernel_rfl) (by kernel_rfl) (by kernel_rfl) ?_ ?_ [] ?_
  · exact all_nil
  · exact all_nil
  · intro v os r h
    unfold D_laws_markText at h
    split at h <;> first | (cases h; rfl) | cases h
  · refine all_cons ?_ (all_nil)
    · refine ⟨fun vs os => ?_, by kernel_rfl, fun k vs os r h => ?_⟩
      · show C_laws_markText_4.fn 0 vs os = none
        unfold C_laws_markText_4; dsimp only; split <;> rfl
      · change C_laws_markText_4.fn (k + 1) vs os = some r at h
        unfold C_laws_markText_4 at h; dsimp only at h
        split at h
        · exact ⟨4000, (c_laws_markText_4 k _ _).trans h⟩
        · cases h
  · intro args os r h
    change (S_laws_markText k).run args os = some r at h
    unfold S_laws_markText at h; dsimp only at h
    split at h
    · exact ⟨Nat.le_of_ble_eq_true (by kernel_rfl), rfl, rfl, k, 4000, (e_laws_markText k _).trans h⟩
    · cases h
noncomputable def S_spec_l1In (k : Nat) : Summ K TyK where
  R := Bool
  modes := [.bo, .bo, .bo]
  run := fun args objs => match args, objs with
    | [.lit (.int .i64 v1), .lit (.int .i64 v2), .lit (.int .i64 v3)], [] => spec_l1In k v1 v2 v3
    | _, _ => none
  ret := fun r => (.lit (.bool r), [])
  quiet := true
noncomputable def D_spec_l1In (v : V) (os : Objs K TyK) : Option (Bool) :=
  match v, os with
  | .lit (.bool v1), [] => some v1
  | _, _ => none
noncomputable abbrev G_spec_l1In (k : Nat) : FuncId → Option (Summ K TyK) := lookT []
noncomputable abbrev L_spec_l1In : List (Nat × Cut K TyK (Bool)) := []
theorem e_spec_l1In (k : Nat) (a0 : Int) (a1 : Int) (a2 : Int) : run cod T (G_spec_l1In k) (lam L_spec_l1In k) (cutsOf L_spec_l1In) 0 (finish cod T false 0 [.tmp 6] D_spec_l1In) 4000 false [.code (bodyOf Try.f79)] (envOf [0, 1, 2] [.lit (.int .i64 a0), .lit (.int .i64 a1), .lit (.int .i64 a2)]) [] = spec_l1In k a0 a1 a2 := by kernel_rfl
theorem ok_spec_l1In (k : Nat) : SummOk Try.prog cod 79 (S_spec_l1In k) := by
  refine summ_of (T := T) Try.f79 (G_spec_l1In) L_spec_l1In false [.tmp 6] 0 D_spec_l1In mixed (fun k => Known.of tok eok codOk ?_) (fun k => QuietOk.of ?_) Try.func79 (by kernel_rfl) (by kernel_rfl) (by kernel_rfl) (by kernel_rfl) (by kernel_rfl) ?_ ?_ [] ?_
  · exact all_nil
  · exact all_nil
  · intro v os r h
    unfold D_spec_l1In at h
    split at h <;> first | (cases h; rfl) | cases h
  · refine all_nil
  · intro args os r h
    change (S_spec_l1In k).run args os = some r at h
    unfold S_spec_l1In at h; dsimp only at h
    split at h
    · exact ⟨Nat.le_of_ble_eq_true (by kernel_rfl), rfl, rfl, k, 4000, (e_spec_l1In k _ _ _).trans h⟩
    · cases h
noncomputable def S_impl_in (k : Nat) : Summ K TyK where
  R := Bool
  modes := [.bo, .bo, .bo]
  run := fun args objs => match args, objs with
    | [.lit (.int .i64 v1), .lit (.int .i64 v2), .lit (.int .i64 v3)], [] => impl_in k v1 v2 v3
    | _, _ => none
  ret := fun r => (.lit (.bool r), [])
  quiet := true
noncomputable def D_impl_in (v : V) (os : Objs K TyK) : Option (Bool) :=
  match v, os with
  | .lit (.bool v1), [] => some v1
  | _, _ => none
noncomputable abbrev G_impl_in (k : Nat) : FuncId → Option (Summ K TyK) := lookT []
noncomputable abbrev L_impl_in : List (Nat × Cut K TyK (Bool)) := []
theorem e_impl_in (k : Nat) (a0 : Int) (a1 : Int) (a2 : Int) : run cod T (G_impl_in k) (lam L_impl_in k) (cutsOf L_impl_in) 0 (finish cod T false 0 [.tmp 6] D_impl_in) 4000 false [.code (bodyOf Try.f89)] (envOf [0, 1, 2] [.lit (.int .i64 a0), .lit (.int .i64 a1), .lit (.int .i64 a2)]) [] = impl_in k a0 a1 a2 := by kernel_rfl
theorem ok_impl_in (k : Nat) : SummOk Try.prog cod 89 (S_impl_in k) := by
  refine summ_of (T := T) Try.f89 (G_impl_in) L_impl_in false [.tmp 6] 0 D_impl_in mixed (fun k => Known.of tok eok codOk ?_) (fun k => QuietOk.of ?_) Try.func89 (by kernel_rfl) (by kernel_rfl) (by kernel_rfl) (by kernel_rfl) (by kernel_rfl) ?_ ?_ [] ?_
  · exact all_nil
  · exact all_nil
  · intro v os r h
    unfold D_impl_in at h
    split at h <;> first | (cases h; rfl) | cases h
  · refine all_nil
  · intro args os r h
    change (S_impl_in k).run args os = some r at h
    unfold S_impl_in at h; dsimp only at h
    split at h
    · exact ⟨Nat.le_of_ble_eq_true (by kernel_rfl), rfl, rfl, k, 4000, (e_impl_in k _ _ _).trans h⟩
    · cases h
noncomputable def S_laws_szItem (k : Nat) : Summ K TyK where
  R := Int
  modes := [.bo, .bo]
  run := fun args objs => match args, objs with
    | [.agg [.lit (.string v1), .lit (.bool v2), .lit (.bool v3), .lit (.int .i64 v4)], .lit (.int .i64 v5)], [] => laws_szItem k (⟨(⟨v1, v2⟩ : DPart), v3, v4⟩ : DItem) v5
    | _, _ => none
  ret := fun r => (.lit (.int .i64 r), [])
  quiet := true
noncomputable def D_laws_szItem (v : V) (os : Objs K TyK) : Option (Int) :=
  match v, os with
  | .lit (.int .i64 v1), [] => some v1
  | _, _ => none
noncomputable abbrev G_laws_szItem (k : Nat) : FuncId → Option (Summ K TyK) := lookT [(71, S_laws_szPart k)]
noncomputable abbrev L_laws_szItem : List (Nat × Cut K TyK (Int)) := []
theorem e_laws_szItem (k : Nat) (a0 : DItem) (a1 : Int) : run cod T (G_laws_szItem k) (lam L_laws_szItem k) (cutsOf L_laws_szItem) 0 (finish cod T false 0 [.tmp 4] D_laws_szItem) 4000 false [.code (bodyOf Try.f116)] (envOf [0, 1] [.agg [.lit (.string a0.Part.Text), .lit (.bool a0.Part.Last), .lit (.bool a0.Has), .lit (.int .i64 a0.Since)], .lit (.int .i64 a1)]) [] = laws_szItem k a0 a1 := by kernel_rfl
theorem ok_laws_szItem (k : Nat) : SummOk Try.prog cod 116 (S_laws_szItem k) := by
  refine summ_of (T := T) Try.f116 (G_laws_szItem) L_laws_szItem false [.tmp 4] 0 D_laws_szItem mixed (fun k => Known.of tok eok codOk ?_) (fun k => QuietOk.of ?_) Try.func116 (by kernel_rfl) (by kernel_rfl) (by kernel_rfl) (by kernel_rfl) (by kernel_rfl) ?_ ?_ [] ?_
  · exact all_cons (ok_laws_szPart k) (all_nil)
  · exact all_cons (fun h r => ⟨rfl, rfl⟩) (all_nil)
  · intro v os r h
    unfold D_laws_szItem at h
    split at h <;> first | (cases h; rfl) | cases h
  · refine all_nil
  · intro args os r h
    change (S_laws_szItem k).run args os = some r at h
    unfold S_laws_szItem at h; dsimp only at h
    split at h
    · exact ⟨Nat.le_of_ble_eq_true (by kernel_rfl), rfl, rfl, k, 4000, (e_laws_szItem k ⟨⟨_, _⟩, _, _⟩ _).trans h⟩
    · cases h
noncomputable def S_laws_szItemS (k : Nat) : Summ K TyK where
  R := Int
  modes := [.bo, .bo]
  run := fun args objs => match args, objs with
    | [.inl true .item v1, .lit (.int .i64 v2)], [] => laws_szItemS k v1 v2
    | _, _ => none
  ret := fun r => (.lit (.int .i64 r), [])
  quiet := true
noncomputable def D_laws_szItemS (v : V) (os : Objs K TyK) : Option (Int) :=
  match v, os with
  | .lit (.int .i64 v1), [] => some v1
  | _, _ => none
noncomputable def C_laws_szItemS_5 : Cut K TyK (Int) where
  slots := [0, 1, 5]
  fn := fun k vs os => match vs, os with
    | [.inl true .item x0, .lit (.int .i64 x1), .lit (.int .i64 x2)], [] => laws_szItemS_l5 k x0 x1 x2
    | _, _ => none
noncomputable abbrev G_laws_szItemS (k : Nat) : FuncId → Option (Summ K TyK) := lookT [(116, S_laws_szItem k)]
noncomputable abbrev L_laws_szItemS : List (Nat × Cut K TyK (Int)) := [(5, C_laws_szItemS_5)]
theorem c_laws_szItemS_5 (k : Nat) (x0 : List DItem) (x1 : Int) (x2 : Int) : run cod T (G_laws_szItemS k) (lam L_laws_szItemS k) (cutsOf L_laws_szItemS) 0 (finish cod T false 0 [.tmp 4] D_laws_szItemS) 4000 true (todoAt 5 (bodyOf Try.f94)) (envOf [0, 1, 5] [.inl true .item x0, .lit (.int .i64 x1), .lit (.int .i64 x2)]) [] = laws_szItemS_l5 (k + 1) x0 x1 x2 := by kernel_rfl
theorem e_laws_szItemS (k : Nat) (a0 : List DItem) (a1 : Int) : run cod T (G_laws_szItemS k) (lam L_laws_szItemS k) (cutsOf L_laws_szItemS) 0 (finish cod T false 0 [.tmp 4] D_laws_szItemS) 4000 false [.code (bodyOf Try.f94)] (envOf [0, 1] [.inl true .item a0, .lit (.int .i64 a1)]) [] = laws_szItemS k a0 a1 := by kernel_rfl
theorem ok_laws_szItemS (k : Nat) : SummOk Try.prog cod 94 (S_laws_szItemS k) := by
  refine summ_of (T := T) Try.f94 (G_laws_szItemS) L_laws_szItemS false [.tmp 4] 0 D_laws_szItemS mixed (fun k => Known.of tok eok codOk ?_) (fun k => QuietOk.of ?_) Try.func94 (by kernel_rfl) (by kernel_rfl) (by kernel_rfl) (by kernel_rfl) (by kernel_rfl) ?_ ?_ [] ?_
  · exact all_cons (ok_laws_szItem k) (all_nil)
  · exact all_cons (fun h r => ⟨rfl, rfl⟩) (all_nil)
  · intro v os r h
    unfold D_laws_szItemS at h
    split at h <;> first | (cases h; rfl) | cases h
  · refine all_cons ?_ (all_nil)
    · refine ⟨fun vs os => ?_, by kernel_rfl, fun k vs os r h => ?_⟩
      · show C_laws_szItemS_5.fn 0 vs os = none
        unfold C_laws_szItemS_5; dsimp only; split <;> rfl
      · change C_laws_szItemS_5.fn (k + 1) vs os = some r at h
        unfold C_laws_szItemS_5 at h; dsimp only at h
        split at h
        · exact ⟨4000, (c_laws_szItemS_5 k _ _ _).trans h⟩
        · cases h
  · intro args os r h
    change (S_laws_szItemS k).run args os = some r at h
    unfold S_laws_szItemS at h; dsimp only at h
    split at h
    · exact ⟨Nat.le_of_ble_eq_true (by kernel_rfl), rfl, rfl, k, 4000, (e_laws_szItemS k _ _).trans h⟩
    · cases h
noncomputable def S_laws_szSend (k : Nat) : Summ K TyK where
  R := Int
  modes := [.bo, .bo]
  run := fun args objs => match args, objs with
    | [.agg [.lit (.int .i64 v1), .inl true .item v2], .lit (.int .i64 v3)], [] => laws_szSend k (⟨v1, v2⟩ : DSend) v3
    | _, _ => none
  ret := fun r => (.lit (.int .i64 r), [])
  quiet := true
noncomputable def D_laws_szSend (v : V) (os : Objs K TyK) : Option (Int) :=
  match v, os with
  | .lit (.int .i64 v1), [] => some v1
  | _, _ => none
noncomputable abbrev G_laws_szSend (k : Nat) : FuncId → Option (Summ K TyK) := lookT [(94, S_laws_szItemS k)]
noncomputable abbrev L_laws_szSend : List (Nat × Cut K TyK (Int)) := []
theorem e_laws_szSend (k : Nat) (a0 : DSend) (a1 : Int) : run cod T (G_laws_szSend k) (lam L_laws_szSend k) (cutsOf L_laws_szSend) 0 (finish cod T false 0 [.tmp 4] D_laws_szSend) 4000 false [.code (bodyOf Try.f43)] (envOf [0, 1] [.agg [.lit (.int .i64 a0.Base), .inl true .item a0.Items], .lit (.int .i64 a1)]) [] = laws_szSend k a0 a1 := by kernel_rfl
theorem ok_laws_szSend (k : Nat) : SummOk Try.prog cod 43 (S_laws_szSend k) := by
  refine summ_of (T := T) Try.f43 (G_laws_szSend) L_laws_szSend false [.tmp 4] 0 D_laws_szSend mixed (fun k => Known.of tok eok codOk ?_) (fun k => QuietOk.of ?_) Try.func43 (by kernel_rfl) (by kernel_rfl) (by kernel_rfl) (by kernel_rfl) (by kernel_rfl) ?_ ?_ [] ?_
  · exact all_cons (ok_laws_szItemS k) (all_nil)
  · exact all_cons (fun h r => ⟨rfl, rfl⟩) (all_nil)
  · intro v os r h
    unfold D_laws_szSend at h
    split at h <;> first | (cases h; rfl) | cases h
  · refine all_nil
  · intro args os r h
    change (S_laws_szSend k).run args os = some r at h
    unfold S_laws_szSend at h; dsimp only at h
    split at h
    · exact ⟨Nat.le_of_ble_eq_true (by kernel_rfl), rfl, rfl, k, 4000, (e_laws_szSend k ⟨_, _⟩ _).trans h⟩
    · cases h
noncomputable def S_laws_toItem (k : Nat) : Summ K TyK where
  R := DItem
  modes := [.bo]
  run := fun args objs => match args, objs with
    | [.agg [.lit (.string v1), .lit (.bool v2), .lit (.bool v3), .lit (.int .i64 v4)]], [] => laws_toItem k (⟨(⟨v1, v2⟩ : DPart), v3, v4⟩ : DItem)
    | _, _ => none
  ret := fun r => (.agg [.lit (.string r.Part.Text), .lit (.bool r.Part.Last), .lit (.bool r.Has), .lit (.int .i64 r.Since)], [])
  quiet := true
noncomputable def D_laws_toItem (v : V) (os : Objs K TyK) : Option (DItem) :=
  match v, os with
  | .agg [.lit (.string v1), .lit (.bool v2), .lit (.bool v3), .lit (.int .i64 v4)], [] => some (⟨(⟨v1, v2⟩ : DPart), v3, v4⟩ : DItem)
  | _, _ => none
noncomputable abbrev G_laws_toItem (k : Nat) : FuncId → Option (Summ K TyK) := lookT [(72, S_laws_toPart k)]
noncomputable abbrev L_laws_toItem : List (Nat × Cut K TyK (DItem)) := []
theorem e_laws_toItem (k : Nat) (a0 : DItem) : run cod T (G_laws_toItem k) (lam L_laws_toItem k) (cutsOf L_laws_toItem) 0 (finish cod T false 0 [.cell 2 94] D_laws_toItem) 4000 false [.code (bodyOf Try.f117)] (envOf [0] [.agg [.lit (.string a0.Part.Text), .lit (.bool a0.Part.Last), .lit (.bool a0.Has), .lit (.int .i64 a0.Since)]]) [] = laws_toItem k a0 := by kernel_rfl
theorem ok_laws_toItem (k : Nat) : SummOk Try.prog cod 117 (S_laws_toItem k) := by
  refine summ_of (T := T) Try.f117 (G_laws_toItem) L_laws_toItem false [.cell 2 94] 0 D_laws_toItem mixed (fun k => Known.of tok eok codOk ?_) (fun k => QuietOk.of ?_) Try.func117 (by kernel_rfl) (by kernel_rfl) (by kernel_rfl) (by kernel_rfl) (by kernel_rfl) ?_ ?_ [] ?_
  · exact all_cons (ok_laws_toPart k) (all_nil)
  · exact all_cons (fun h r => ⟨rfl, rfl⟩) (all_nil)
  · intro v os r h
    unfold D_laws_toItem at h
    split at h <;> first | (cases h; rfl) | cases h
  · refine all_nil
  · intro args os r h
    change (S_laws_toItem k).run args os = some r at h
    unfold S_laws_toItem at h; dsimp only at h
    split at h
    · exact ⟨Nat.le_of_ble_eq_true (by kernel_rfl), rfl, rfl, k, 4000, (e_laws_toItem k ⟨⟨_, _⟩, _, _⟩).trans h⟩
    · cases h
noncomputable def S_laws_toItemS (k : Nat) : Summ K TyK where
  R := List DItem
  modes := [.bo]
  run := fun args objs => match args, objs with
    | [.inl true .item v1], [] => laws_toItemS k v1
    | _, _ => none
  ret := fun r => (.own 0, [.sl .item r])
  quiet := false
noncomputable def D_laws_toItemS (v : V) (os : Objs K TyK) : Option (List DItem) :=
  match v, os with
  | .own 0, [.sl .item v1] => some v1
  | _, _ => none
noncomputable def C_laws_toItemS_3 : Cut K TyK (List DItem) where
  slots := [0, 3, 4]
  fn := fun k vs os => match vs, os with
    | [.inl true .item x0, .own 0, .lit (.int .i64 x1)], [.sl .item x2] => laws_toItemS_l3 k x0 x1 x2
    | _, _ => none
noncomputable abbrev G_laws_toItemS (k : Nat) : FuncId → Option (Summ K TyK) := lookT [(117, S_laws_toItem k)]
noncomputable abbrev L_laws_toItemS : List (Nat × Cut K TyK (List DItem)) := [(3, C_laws_toItemS_3)]
theorem c_laws_toItemS_3 (k : Nat) (x0 : List DItem) (x1 : Int) (x2 : List DItem) : run cod T (G_laws_toItemS k) (lam L_laws_toItemS k) (cutsOf L_laws_toItemS) 0 (finish cod T false 0 [.tmp 2] D_laws_toItemS) 4000 true (todoAt 3 (bodyOf Try.f97)) (envOf [0, 3, 4] [.inl true .item x0, .own 0, .lit (.int .i64 x1)]) [.sl .item x2] = laws_toItemS_l3 (k + 1) x0 x1 x2 := by kernel_rfl
theorem e_laws_toItemS (k : Nat) (a0 : List DItem) : run cod T (G_laws_toItemS k) (lam L_laws_toItemS k) (cutsOf L_laws_toItemS) 0 (finish cod T false 0 [.tmp 2] D_laws_toItemS) 4000 false [.code (bodyOf Try.f97)] (envOf [0] [.inl true .item a0]) [] = laws_toItemS k a0 := by kernel_rfl
theorem ok_laws_toItemS (k : Nat) : SummOk Try.prog cod 97 (S_laws_toItemS k) := by
  refine summ_of (T := T) Try.f97 (G_laws_toItemS) L_laws_toItemS false [.tmp 2] 0 D_laws_toItemS mixed (fun k => Known.of tok eok codOk ?_) (fun k => QuietOk.of ?_) Try.func97 (by kernel_rfl) (by kernel_rfl) (by kernel_rfl) (by kernel_rfl) (by kernel_rfl) ?_ ?_ [] ?_
  · exact all_cons (ok_laws_toItem k) (all_nil)
  · exact all_cons (fun h r => ⟨rfl, rfl⟩) (all_nil)
  · intro v os r h
    unfold D_laws_toItemS at h
    split at h <;> first | (cases h; rfl) | cases h
  · refine all_cons ?_ (all_nil)
    · refine ⟨fun vs os => ?_, by kernel_rfl, fun k vs os r h => ?_⟩
      · show C_laws_toItemS_3.fn 0 vs os = none
        unfold C_laws_toItemS_3; dsimp only; split <;> rfl
      · change C_laws_toItemS_3.fn (k + 1) vs os = some r at h
        unfold C_laws_toItemS_3 at h; dsimp only at h
        split at h
        · exact ⟨4000, (c_laws_toItemS_3 k _ _ _).trans h⟩
        · cases h
  · intro args os r h
    change (S_laws_toItemS k).run args os = some r at h
    unfold S_laws_toItemS at h; dsimp only at h
    split at h
    · exact ⟨Nat.le_of_ble_eq_true (by kernel_rfl), rfl, rfl, k, 4000, (e_laws_toItemS k _).trans h⟩
    · cases h
noncomputable def S_laws_toSend (k : Nat) : Summ K TyK where
  R := DSend
  modes := [.bo]
  run := fun args objs => match args, objs with
    | [.agg [.lit (.int .i64 v1), .inl true .item v2]], [] => laws_toSend k (⟨v1, v2⟩ : DSend)
    | _, _ => none
  ret := fun r => (.agg [.lit (.int .i64 r.Base), .own 0], [.sl .item r.Items])
  quiet := false
noncomputable def D_laws_toSend (v : V) (os : Objs K TyK) : Option (DSend) :=
  match v, os with
  | .agg [.lit (.int .i64 v1), .own 0], [.sl .item v2] => some (⟨v1, v2⟩ : DSend)
  | _, _ => none
noncomputable abbrev G_laws_toSend (k : Nat) : FuncId → Option (Summ K TyK) := lookT [(97, S_laws_toItemS k)]
noncomputable abbrev L_laws_toSend : List (Nat × Cut K TyK (DSend)) := []
theorem e_laws_toSend (k : Nat) (a0 : DSend) : run cod T (G_laws_toSend k) (lam L_laws_toSend k) (cutsOf L_laws_toSend) 0 (finish cod T false 0 [.cell 2 69] D_laws_toSend) 4000 false [.code (bodyOf Try.f45)] (envOf [0] [.agg [.lit (.int .i64 a0.Base), .inl true .item a0.Items]]) [] = laws_toSend k a0 := by kernel_rfl
theorem ok_laws_toSend (k : Nat) : SummOk Try.prog cod 45 (S_laws_toSend k) := by
  refine summ_of (T := T) Try.f45 (G_laws_toSend) L_laws_toSend false [.cell 2 69] 0 D_laws_toSend mixed (fun k => Known.of tok eok codOk ?_) (fun k => QuietOk.of ?_) Try.func45 (by kernel_rfl) (by kernel_rfl) (by kernel_rfl) (by kernel_rfl) (by kernel_rfl) ?_ ?_ [] ?_
  · exact all_cons (ok_laws_toItemS k) (all_nil)
  · exact all_cons (fun h r => by cases h) (all_nil)
  · intro v os r h
    unfold D_laws_toSend at h
    split at h <;> first | (cases h; rfl) | cases h
  · refine all_nil
  · intro args os r h
    change (S_laws_toSend k).run args os = some r at h
    unfold S_laws_toSend at h; dsimp only at h
    split at h
    · exact ⟨Nat.le_of_ble_eq_true (by kernel_rfl), rfl, rfl, k, 4000, (e_laws_toSend k ⟨_, _⟩).trans h⟩
    · cases h
noncomputable def S_spec_ValidSend (k : Nat) : Summ K TyK where
  R := Bool
  modes := [.bo]
  run := fun args objs => match args, objs with
    | [.agg [.lit (.int .i64 v1), .inl true .item v2]], [] => spec_ValidSend k (⟨v1, v2⟩ : DSend)
    | _, _ => none
  ret := fun r => (.lit (.bool r), [])
  quiet := true
noncomputable def D_spec_ValidSend (v : V) (os : Objs K TyK) : Option (Bool) :=
  match v, os with
  | .lit (.bool v1), [] => some v1
  | _, _ => none
noncomputable def C_spec_ValidSend_4 : Cut K TyK (Bool) where
  slots := [1, 3]
  fn := fun k vs os => match vs, os with
    | [.ref 0 0, .lit (.int .i64 x0)], [.box [.lit (.int .i64 x1), .inl true .item x2]] => spec_ValidSend_l4 k x0 x1 x2
    | _, _ => none
noncomputable abbrev G_spec_ValidSend (k : Nat) : FuncId → Option (Summ K TyK) := lookT [(79, S_spec_l1In k)]
noncomputable abbrev L_spec_ValidSend : List (Nat × Cut K TyK (Bool)) := [(4, C_spec_ValidSend_4)]
theorem c_spec_ValidSend_4 (k : Nat) (x0 : Int) (x1 : Int) (x2 : List DItem) : run cod T (G_spec_ValidSend k) (lam L_spec_ValidSend k) (cutsOf L_spec_ValidSend) 0 (finish cod T false 0 [.tmp 2] D_spec_ValidSend) 4000 true (todoAt 4 (bodyOf Try.f64)) (envOf [1, 3] [.ref 0 0, .lit (.int .i64 x0)]) [.box [.lit (.int .i64 x1), .inl true .item x2]] = spec_ValidSend_l4 (k + 1) x0 x1 x2 := by kernel_rfl
theorem e_spec_ValidSend (k : Nat) (a0 : DSend) : run cod T (G_spec_ValidSend k) (lam L_spec_ValidSend k) (cutsOf L_spec_ValidSend) 0 (finish cod T false 0 [.tmp 2] D_spec_ValidSend) 4000 false [.code (bodyOf Try.f64)] (envOf [0] [.agg [.lit (.int .i64 a0.Base), .inl true .item a0.Items]]) [] = spec_ValidSend k a0 := by kernel_rfl
theorem ok_spec_ValidSend (k : Nat) : SummOk Try.prog cod 64 (S_spec_ValidSend k) := by
  refine summ_of (T := T) Try.f64 (G_spec_ValidSend) L_spec_ValidSend false [.tmp 2] 0 D_spec_ValidSend mixed (fun k => Known.of tok eok codOk ?_) (fun k => QuietOk.of ?_) Try.func64 (by kernel_rfl) (by kernel_rfl) (by kernel_rfl) (by kernel_rfl) (by kernel_rfl) ?_ ?_ [] ?_
  · exact all_cons (ok_spec_l1In k) (all_nil)
  · exact all_cons (fun h r => ⟨rfl, rfl⟩) (all_nil)
  · intro v os r h
    unfold D_spec_ValidSend at h
    split at h <;> first | (cases h; rfl) | cases h
  · refine all_cons ?_ (all_nil)
    · refine ⟨fun vs os => ?_, by kernel_rfl, fun k vs os r h => ?_⟩
      · show C_spec_ValidSend_4.fn 0 vs os = none
        unfold C_spec_ValidSend_4; dsimp only; split <;> rfl
      · change C_spec_ValidSend_4.fn (k + 1) vs os = some r at h
        unfold C_spec_ValidSend_4 at h; dsimp only at h
        split at h
        · exact ⟨4000, (c_spec_ValidSend_4 k _ _ _).trans h⟩
        · cases h
  · intro args os r h
    change (S_spec_ValidSend k).run args os = some r at h
    unfold S_spec_ValidSend at h; dsimp only at h
    split at h
    · exact ⟨Nat.le_of_ble_eq_true (by kernel_rfl), rfl, rfl, k, 4000, (e_spec_ValidSend k ⟨_, _⟩).trans h⟩
    · cases h
noncomputable def S_spec_l4Copy (k : Nat) : Summ K TyK where
  R := DSend
  modes := [.bo]
  run := fun args objs => match args, objs with
    | [.agg [.lit (.int .i64 v1), .inl true .item v2]], [] => spec_l4Copy k (⟨v1, v2⟩ : DSend)
    | _, _ => none
  ret := fun r => (.agg [.lit (.int .i64 r.Base), .own 0], [.sl .item r.Items])
  quiet := false
noncomputable def D_spec_l4Copy (v : V) (os : Objs K TyK) : Option (DSend) :=
  match v, os with
  | .agg [.lit (.int .i64 v1), .own 0], [.sl .item v2] => some (⟨v1, v2⟩ : DSend)
  | _, _ => none
noncomputable abbrev G_spec_l4Copy (k : Nat) : FuncId → Option (Summ K TyK) := lookT []
noncomputable abbrev L_spec_l4Copy : List (Nat × Cut K TyK (DSend)) := []
theorem e_spec_l4Copy (k : Nat) (a0 : DSend) : run cod T (G_spec_l4Copy k) (lam L_spec_l4Copy k) (cutsOf L_spec_l4Copy) 0 (finish cod T false 0 [.cell 2 69] D_spec_l4Copy) 4000 false [.code (bodyOf Try.f95)] (envOf [0] [.agg [.lit (.int .i64 a0.Base), .inl true .item a0.Items]]) [] = spec_l4Copy k a0 := by kernel_rfl
theorem ok_spec_l4Copy (k : Nat) : SummOk Try.prog cod 95 (S_spec_l4Copy k) := by
  refine summ_of (T := T) Try.f95 (G_spec_l4Copy) L_spec_l4Copy false [.cell 2 69] 0 D_spec_l4Copy mixed (fun k => Known.of tok eok codOk ?_) (fun k => QuietOk.of ?_) Try.func95 (by kernel_rfl) (by kernel_rfl) (by kernel_rfl) (by kernel_rfl) (by kernel_rfl) ?_ ?_ [] ?_
  · exact all_nil
  · exact all_nil
  · intro v os r h
    unfold D_spec_l4Copy at h
    split at h <;> first | (cases h; rfl) | cases h
  · refine all_nil
  · intro args os r h
    change (S_spec_l4Copy k).run args os = some r at h
    unfold S_spec_l4Copy at h; dsimp only at h
    split at h
    · exact ⟨Nat.le_of_ble_eq_true (by kernel_rfl), rfl, rfl, k, 4000, (e_spec_l4Copy k ⟨_, _⟩).trans h⟩
    · cases h
noncomputable def S_spec_l4Front (k : Nat) : Summ K TyK where
  R := Int
  modes := [.bo]
  run := fun args objs => match args, objs with
    | [.agg [.lit (.int .i64 v1), .inl true .item v2]], [] => spec_l4Front k (⟨v1, v2⟩ : DSend)
    | _, _ => none
  ret := fun r => (.lit (.int .i64 r), [])
  quiet := true
noncomputable def D_spec_l4Front (v : V) (os : Objs K TyK) : Option (Int) :=
  match v, os with
  | .lit (.int .i64 v1), [] => some v1
  | _, _ => none
noncomputable def C_spec_l4Front_2 : Cut K TyK (Int) where
  slots := [1, 3]
  fn := fun k vs os => match vs, os with
    | [.ref 0 0, .lit (.int .i64 x0)], [.box [.lit (.int .i64 x1), .inl true .item x2]] => spec_l4Front_l2 k x0 x1 x2
    | _, _ => none
noncomputable abbrev G_spec_l4Front (k : Nat) : FuncId → Option (Summ K TyK) := lookT []
noncomputable abbrev L_spec_l4Front : List (Nat × Cut K TyK (Int)) := [(2, C_spec_l4Front_2)]
theorem c_spec_l4Front_2 (k : Nat) (x0 : Int) (x1 : Int) (x2 : List DItem) : run cod T (G_spec_l4Front k) (lam L_spec_l4Front k) (cutsOf L_spec_l4Front) 0 (finish cod T false 0 [.tmp 2] D_spec_l4Front) 4000 true (todoAt 2 (bodyOf Try.f96)) (envOf [1, 3] [.ref 0 0, .lit (.int .i64 x0)]) [.box [.lit (.int .i64 x1), .inl true .item x2]] = spec_l4Front_l2 (k + 1) x0 x1 x2 := by kernel_rfl
theorem e_spec_l4Front (k : Nat) (a0 : DSend) : run cod T (G_spec_l4Front k) (lam L_spec_l4Front k) (cutsOf L_spec_l4Front) 0 (finish cod T false 0 [.tmp 2] D_spec_l4Front) 4000 false [.code (bodyOf Try.f96)] (envOf [0] [.agg [.lit (.int .i64 a0.Base), .inl true .item a0.Items]]) [] = spec_l4Front k a0 := by kernel_rfl
theorem ok_spec_l4Front (k : Nat) : SummOk Try.prog cod 96 (S_spec_l4Front k) := by
  refine summ_of (T := T) Try.f96 (G_spec_l4Front) L_spec_l4Front false [.tmp 2] 0 D_spec_l4Front mixed (fun k => Known.of tok eok codOk ?_) (fun k => QuietOk.of ?_) Try.func96 (by kernel_rfl) (by kernel_rfl) (by kernel_rfl) (by kernel_rfl) (by kernel_rfl) ?_ ?_ [] ?_
  · exact all_nil
  · exact all_nil
  · intro v os r h
    unfold D_spec_l4Front at h
    split at h <;> first | (cases h; rfl) | cases h
  · refine all_cons ?_ (all_nil)
    · refine ⟨fun vs os => ?_, by kernel_rfl, fun k vs os r h => ?_⟩
      · show C_spec_l4Front_2.fn 0 vs os = none
        unfold C_spec_l4Front_2; dsimp only; split <;> rfl
      · change C_spec_l4Front_2.fn (k + 1) vs os = some r at h
        unfold C_spec_l4Front_2 at h; dsimp only at h
        split at h
        · exact ⟨4000, (c_spec_l4Front_2 k _ _ _).trans h⟩
        · cases h
  · intro args os r h
    change (S_spec_l4Front k).run args os = some r at h
    unfold S_spec_l4Front at h; dsimp only at h
    split at h
    · exact ⟨Nat.le_of_ble_eq_true (by kernel_rfl), rfl, rfl, k, 4000, (e_spec_l4Front k ⟨_, _⟩).trans h⟩
    · cases h
noncomputable def S_spec_SendWord (k : Nat) : Summ K TyK where
  R := DSend
  modes := [.bo, .bo, .bo]
  run := fun args objs => match args, objs with
    | [.agg [.lit (.int .i64 v1), .inl true .item v2], .lit (.int .i64 v3), .lit (.int .i64 v4)], [] => spec_SendWord k (⟨v1, v2⟩ : DSend) v3 v4
    | _, _ => none
  ret := fun r => (.agg [.lit (.int .i64 r.Base), .own 0], [.sl .item r.Items])
  quiet := false
noncomputable def D_spec_SendWord (v : V) (os : Objs K TyK) : Option (DSend) :=
  match v, os with
  | .agg [.lit (.int .i64 v1), .own 0], [.sl .item v2] => some (⟨v1, v2⟩ : DSend)
  | _, _ => none
noncomputable def C_spec_SendWord_9 : Cut K TyK (DSend) where
  slots := [2, 6, 7, 8]
  fn := fun k vs os => match vs, os with
    | [.lit (.int .i64 x0), .ref 0 0, .ref 1 0, .lit (.int .i64 x1)], [.box [.lit (.int .i64 x2), .own 2], .box [.lit (.int .i64 x3), .own 3], .sl .item x4, .sl .item x5] => spec_SendWord_l9 k x0 x1 x2 x3 x4 x5
    | _, _ => none
noncomputable def C_spec_SendWord_13 : Cut K TyK (DSend) where
  slots := [2, 6, 7, 8]
  fn := fun k vs os => match vs, os with
    | [.lit (.int .i64 x0), .ref 0 0, .ref 1 0, .lit (.int .i64 x1)], [.box [.lit (.int .i64 x2), .own 2], .box [.lit (.int .i64 x3), .own 3], .sl .item x4, .sl .item x5] => spec_SendWord_l13 k x0 x1 x2 x3 x4 x5
    | _, _ => none
noncomputable abbrev G_spec_SendWord (k : Nat) : FuncId → Option (Summ K TyK) := lookT [(64, S_spec_ValidSend k), (95, S_spec_l4Copy k), (96, S_spec_l4Front k), (79, S_spec_l1In k)]
noncomputable abbrev L_spec_SendWord : List (Nat × Cut K TyK (DSend)) := [(9, C_spec_SendWord_9), (13, C_spec_SendWord_13)]
theorem c_spec_SendWord_9 (k : Nat) (x0 : Int) (x1 : Int) (x2 : Int) (x3 : Int) (x4 : List DItem) (x5 : List DItem) : run cod T (G_spec_SendWord k) (lam L_spec_SendWord k) (cutsOf L_spec_SendWord) 0 (finish cod T false 0 [.cell 6 69] D_spec_SendWord) 4000 true (todoAt 9 (bodyOf Try.f44)) (envOf [2, 6, 7, 8] [.lit (.int .i64 x0), .ref 0 0, .ref 1 0, .lit (.int .i64 x1)]) [.box [.lit (.int .i64 x2), .own 2], .box [.lit (.int .i64 x3), .own 3], .sl .item x4, .sl .item x5] = spec_SendWord_l9 (k + 1) x0 x1 x2 x3 x4 x5 := by kernel_rfl
theorem c_spec_SendWord_13 (k : Nat) (x0 : Int) (x1 : Int) (x2 : Int) (x3 : Int) (x4 : List DItem) (x5 : List DItem) : run cod T (G_spec_SendWord k) (lam L_spec_SendWord k) (cutsOf L_spec_SendWord) 0 (finish cod T false 0 [.cell 6 69] D_spec_SendWord) 4000 true (todoAt 13 (bodyOf Try.f44)) (envOf [2, 6, 7, 8] [.lit (.int .i64 x0), .ref 0 0, .ref 1 0, .lit (.int .i64 x1)]) [.box [.lit (.int .i64 x2), .own 2], .box [.lit (.int .i64 x3), .own 3], .sl .item x4, .sl .item x5] = spec_SendWord_l13 (k + 1) x0 x1 x2 x3 x4 x5 := by kernel_rfl
theorem e_spec_SendWord (k : Nat) (a0 : DSend) (a1 : Int) (a2 : Int) : run cod T (G_spec_SendWord k) (lam L_spec_SendWord k) (cutsOf L_spec_SendWord) 0 (finish cod T false 0 [.cell 6 69] D_spec_SendWord) 4000 false [.code (bodyOf Try.f44)] (envOf [0, 1, 2] [.agg [.lit (.int .i64 a0.Base), .inl true .item a0.Items], .lit (.int .i64 a1), .lit (.int .i64 a2)]) [] = spec_SendWord k a0 a1 a2 := by kernel_rfl
theorem ok_spec_SendWord (k : Nat) : SummOk Try.prog cod 44 (S_spec_SendWord k) := by
  refine summ_of (T := T) Try.f44 (G_spec_SendWord) L_spec_SendWord false [.cell 6 69] 0 D_spec_SendWord mixed (fun k => Known.of tok eok codOk ?_) (fun k => QuietOk.of ?_) Try.func44 (by kernel_rfl) (by kernel_rfl) (by kernel_rfl) (by kernel_rfl) (by kernel_rfl) ?_ ?_ [] ?_
  · exact all_cons (ok_spec_ValidSend k) (all_cons (ok_spec_l4Copy k) (all_cons (ok_spec_l4Front k) (all_cons (ok_spec_l1In k) (all_nil))))
  · exact all_cons (fun h r => ⟨rfl, rfl⟩) (all_cons (fun h r => by cases h) (all_cons (fun h r => ⟨rfl, rfl⟩) (all_cons (fun h r => ⟨rfl, rfl⟩) (all_nil))))
  · intro v os r h
    unfold D_spec_SendWord at h
    split at h <;> first | (cases h; rfl) | cases h
  · refine all_cons ?_ (all_cons ?_ (all_nil))
    · refine ⟨fun vs os => ?_, by kernel_rfl, fun k vs os r h => ?_⟩
      · show C_spec_SendWord_9.fn 0 vs os = none
        unfold C_spec_SendWord_9; dsimp only; split <;> rfl
      · change C_spec_SendWord_9.fn (k + 1) vs os = some r at h
        unfold C_spec_SendWord_9 at h; dsimp only at h
        split at h
        · exact ⟨4000, (c_spec_SendWord_9 k _ _ _ _ _ _).trans h⟩
        · cases h
    · refine ⟨fun vs os => ?_, by kernel_rfl, fun k vs os r h => ?_⟩
      · show C_spec_SendWord_13.fn 0 vs os = none
        unfold C_spec_SendWord_13; dsimp only; split <;> rfl
      · change C_spec_SendWord_13.fn (k + 1) vs os = some r at h
        unfold C_spec_SendWord_13 at h; dsimp only at h
        split at h
        · exact ⟨4000, (c_spec_SendWord_13 k _ _ _ _ _ _).trans h⟩
        · cases h
  · intro args os r h
    change (S_spec_SendWord k).run args os = some r at h
    unfold S_spec_SendWord at h; dsimp only at h
    split at h
    · exact ⟨Nat.le_of_ble_eq_true (by kernel_rfl), rfl, rfl, k, 4000, (e_spec_SendWord k ⟨_, _⟩ _ _).trans h⟩
    · cases h
noncomputable def S_impl_ValidSend (k : Nat) : Summ K TyK where
  R := Bool
  modes := [.bo]
  run := fun args objs => match args, objs with
    | [.agg [.lit (.int .i64 v1), .inl true .item v2]], [] => impl_ValidSend k (⟨v1, v2⟩ : DSend)
    | _, _ => none
  ret := fun r => (.lit (.bool r), [])
  quiet := true
noncomputable def D_impl_ValidSend (v : V) (os : Objs K TyK) : Option (Bool) :=
  match v, os with
  | .lit (.bool v1), [] => some v1
  | _, _ => none
noncomputable def C_impl_ValidSend_4 : Cut K TyK (Bool) where
  slots := [25, 26, 27]
  fn := fun k vs os => match vs, os with
    | [.inl true .item x0, .lit (.int .i64 x1), .lit (.int .i64 x2)], [] => impl_ValidSend_l4 k x0 x1 x2
    | _, _ => none
noncomputable abbrev G_impl_ValidSend (k : Nat) : FuncId → Option (Summ K TyK) := lookT [(89, S_impl_in k)]
noncomputable abbrev L_impl_ValidSend : List (Nat × Cut K TyK (Bool)) := [(4, C_impl_ValidSend_4)]
theorem c_impl_ValidSend_4 (k : Nat) (x0 : List DItem) (x1 : Int) (x2 : Int) : run cod T (G_impl_ValidSend k) (lam L_impl_ValidSend k) (cutsOf L_impl_ValidSend) 0 (finish cod T false 0 [.tmp 2] D_impl_ValidSend) 4000 true (todoAt 4 (bodyOf Try.f65)) (envOf [25, 26, 27] [.inl true .item x0, .lit (.int .i64 x1), .lit (.int .i64 x2)]) [] = impl_ValidSend_l4 (k + 1) x0 x1 x2 := by kernel_rfl
theorem e_impl_ValidSend (k : Nat) (a0 : DSend) : run cod T (G_impl_ValidSend k) (lam L_impl_ValidSend k) (cutsOf L_impl_ValidSend) 0 (finish cod T false 0 [.tmp 2] D_impl_ValidSend) 4000 false [.code (bodyOf Try.f65)] (envOf [0] [.agg [.lit (.int .i64 a0.Base), .inl true .item a0.Items]]) [] = impl_ValidSend k a0 := by kernel_rfl
theorem ok_impl_ValidSend (k : Nat) : SummOk Try.prog cod 65 (S_impl_ValidSend k) := by
  refine summ_of (T := T) Try.f65 (G_impl_ValidSend) L_impl_ValidSend false [.tmp 2] 0 D_impl_ValidSend mixed (fun k => Known.of tok eok codOk ?_) (fun k => QuietOk.of ?_) Try.func65 (by kernel_rfl) (by kernel_rfl) (by kernel_rfl) (by kernel_rfl) (by kernel_rfl) ?_ ?_ [] ?_
  · exact all_cons (ok_impl_in k) (all_nil)
  · exact all_cons (fun h r => ⟨rfl, rfl⟩) (all_nil)
  · intro v os r h
    unfold D_impl_ValidSend at h
    split at h <;> first | (cases h; rfl) | cases h
  · refine all_cons ?_ (all_nil)
    · refine ⟨fun vs os => ?_, by kernel_rfl, fun k vs os r h => ?_⟩
      · show C_impl_ValidSend_4.fn 0 vs os = none
        unfold C_impl_ValidSend_4; dsimp only; split <;> rfl
      · change C_impl_ValidSend_4.fn (k + 1) vs os = some r at h
        unfold C_impl_ValidSend_4 at h; dsimp only at h
        split at h
        · exact ⟨4000, (c_impl_ValidSend_4 k _ _ _).trans h⟩
        · cases h
  · intro args os r h
    change (S_impl_ValidSend k).run args os = some r at h
    unfold S_impl_ValidSend at h; dsimp only at h
    split at h
    · exact ⟨Nat.le_of_ble_eq_true (by kernel_rfl), rfl, rfl, k, 4000, (e_impl_ValidSend k ⟨_, _⟩).trans h⟩
    · cases h
noncomputable def S_impl_copySend (k : Nat) : Summ K TyK where
  R := DSend
  modes := [.bo]
  run := fun args objs => match args, objs with
    | [.agg [.lit (.int .i64 v1), .inl true .item v2]], [] => impl_copySend k (⟨v1, v2⟩ : DSend)
    | _, _ => none
  ret := fun r => (.agg [.lit (.int .i64 r.Base), .own 0], [.sl .item r.Items])
  quiet := false
noncomputable def D_impl_copySend (v : V) (os : Objs K TyK) : Option (DSend) :=
  match v, os with
  | .agg [.lit (.int .i64 v1), .own 0], [.sl .item v2] => some (⟨v1, v2⟩ : DSend)
  | _, _ => none
noncomputable abbrev G_impl_copySend (k : Nat) : FuncId → Option (Summ K TyK) := lookT []
noncomputable abbrev L_impl_copySend : List (Nat × Cut K TyK (DSend)) := []
theorem e_impl_copySend (k : Nat) (a0 : DSend) : run cod T (G_impl_copySend k) (lam L_impl_copySend k) (cutsOf L_impl_copySend) 0 (finish cod T false 0 [.cell 2 69] D_impl_copySend) 4000 false [.code (bodyOf Try.f98)] (envOf [0] [.agg [.lit (.int .i64 a0.Base), .inl true .item a0.Items]]) [] = impl_copySend k a0 := by kernel_rfl
theorem ok_impl_copySend (k : Nat) : SummOk Try.prog cod 98 (S_impl_copySend k) := by
  refine summ_of (T := T) Try.f98 (G_impl_copySend) L_impl_copySend false [.cell 2 69] 0 D_impl_copySend mixed (fun k => Known.of tok eok codOk ?_) (fun k => QuietOk.of ?_) Try.func98 (by kernel_rfl) (by kernel_rfl) (by kernel_rfl) (by kernel_rfl) (by kernel_rfl) ?_ ?_ [] ?_
  · exact all_nil
  · exact all_nil
  · intro v os r h
    unfold D_impl_copySend at h
    split at h <;> first | (cases h; rfl) | cases h
  · refine all_nil
  · intro args os r h
    change (S_impl_copySend k).run args os = some r at h
    unfold S_impl_copySend at h; dsimp only at h
    split at h
    · exact ⟨Nat.le_of_ble_eq_true (by kernel_rfl), rfl, rfl, k, 4000, (e_impl_copySend k ⟨_, _⟩).trans h⟩
    · cases h
noncomputable def S_impl_SendWord (k : Nat) : Summ K TyK where
  R := DSend
  modes := [.bo, .bo, .bo]
  run := fun args objs => match args, objs with
    | [.agg [.lit (.int .i64 v1), .inl true .item v2], .lit (.int .i64 v3), .lit (.int .i64 v4)], [] => impl_SendWord k (⟨v1, v2⟩ : DSend) v3 v4
    | _, _ => none
  ret := fun r => (.agg [.lit (.int .i64 r.Base), .own 0], [.sl .item r.Items])
  quiet := false
noncomputable def D_impl_SendWord (v : V) (os : Objs K TyK) : Option (DSend) :=
  match v, os with
  | .agg [.lit (.int .i64 v1), .own 0], [.sl .item v2] => some (⟨v1, v2⟩ : DSend)
  | _, _ => none
noncomputable def C_impl_SendWord_5 : Cut K TyK (DSend) where
  slots := [1, 2, 6, 7, 8]
  fn := fun k vs os => match vs, os with
    | [.lit (.int .i64 x0), .lit (.int .i64 x1), .ref 0 0, .ref 1 0, .lit (.int .i64 x2)], [.box [.lit (.int .i64 x3), .own 2], .box [.lit (.int .i64 x4), .own 3], .sl .item x5, .sl .item x6] => impl_SendWord_l5 k x0 x1 x2 x3 x4 x5 x6
    | _, _ => none
noncomputable def C_impl_SendWord_12 : Cut K TyK (DSend) where
  slots := [2, 6, 7, 9]
  fn := fun k vs os => match vs, os with
    | [.lit (.int .i64 x0), .ref 0 0, .ref 1 0, .lit (.int .i64 x1)], [.box [.lit (.int .i64 x2), .own 2], .box [.lit (.int .i64 x3), .own 3], .sl .item x4, .sl .item x5] => impl_SendWord_l12 k x0 x1 x2 x3 x4 x5
    | _, _ => none
noncomputable def C_impl_SendWord_13 : Cut K TyK (DSend) where
  slots := [2, 6, 7, 9]
  fn := fun k vs os => match vs, os with
    | [.lit (.int .i64 x0), .ref 0 0, .ref 1 0, .lit (.int .i64 x1)], [.box [.lit (.int .i64 x2), .own 2], .box [.lit (.int .i64 x3), .own 3], .sl .item x4, .sl .item x5] => impl_SendWord_l13 k x0 x1 x2 x3 x4 x5
    | _, _ => none
noncomputable abbrev G_impl_SendWord (k : Nat) : FuncId → Option (Summ K TyK) := lookT [(65, S_impl_ValidSend k), (98, S_impl_copySend k), (89, S_impl_in k)]
noncomputable abbrev L_impl_SendWord : List (Nat × Cut K TyK (DSend)) := [(5, C_impl_SendWord_5), (12, C_impl_SendWord_12), (13, C_impl_SendWord_13)]
theorem c_impl_SendWord_5 (k : Nat) (x0 : Int) (x1 : Int) (x2 : Int) (x3 : Int) (x4 : Int) (x5 : List DItem) (x6 : List DItem) : run cod T (G_impl_SendWord k) (lam L_impl_SendWord k) (cutsOf L_impl_SendWord) 0 (finish cod T false 0 [.cell 6 69] D_impl_SendWord) 4000 true (todoAt 5 (bodyOf Try.f46)) (envOf [1, 2, 6, 7, 8] [.lit (.int .i64 x0), .lit (.int .i64 x1), .ref 0 0, .ref 1 0, .lit (.int .i64 x2)]) [.box [.lit (.int .i64 x3), .own 2], .box [.lit (.int .i64 x4), .own 3], .sl .item x5, .sl .item x6] = impl_SendWord_l5 (k + 1) x0 x1 x2 x3 x4 x5 x6 := by kernel_rfl
theorem c_impl_SendWord_12 (k : Nat) (x0 : Int) (x1 : Int) (x2 : Int) (x3 : Int) (x4 : List DItem) (x5 : List DItem) : run cod T (G_impl_SendWord k) (lam L_impl_SendWord k) (cutsOf L_impl_SendWord) 0 (finish cod T false 0 [.cell 6 69] D_impl_SendWord) 4000 true (todoAt 12 (bodyOf Try.f46)) (envOf [2, 6, 7, 9] [.lit (.int .i64 x0), .ref 0 0, .ref 1 0, .lit (.int .i64 x1)]) [.box [.lit (.int .i64 x2), .own 2], .box [.lit (.int .i64 x3), .own 3], .sl .item x4, .sl .item x5] = impl_SendWord_l12 (k + 1) x0 x1 x2 x3 x4 x5 := by kernel_rfl
theorem c_impl_SendWord_13 (k : Nat) (x0 : Int) (x1 : Int) (x2 : Int) (x3 : Int) (x4 : List DItem) (x5 : List DItem) : run cod T (G_impl_SendWord k) (lam L_impl_SendWord k) (cutsOf L_impl_SendWord) 0 (finish cod T false 0 [.cell 6 69] D_impl_SendWord) 4000 true (todoAt 13 (bodyOf Try.f46)) (envOf [2, 6, 7, 9] [.lit (.int .i64 x0), .ref 0 0, .ref 1 0, .lit (.int .i64 x1)]) [.box [.lit (.int .i64 x2), .own 2], .box [.lit (.int .i64 x3), .own 3], .sl .item x4, .sl .item x5] = impl_SendWord_l13 (k + 1) x0 x1 x2 x3 x4 x5 := by kernel_rfl
theorem e_impl_SendWord (k : Nat) (a0 : DSend) (a1 : Int) (a2 : Int) : run cod T (G_impl_SendWord k) (lam L_impl_SendWord k) (cutsOf L_impl_SendWord) 0 (finish cod T false 0 [.cell 6 69] D_impl_SendWord) 4000 false [.code (bodyOf Try.f46)] (envOf [0, 1, 2] [.agg [.lit (.int .i64 a0.Base), .inl true .item a0.Items], .lit (.int .i64 a1), .lit (.int .i64 a2)]) [] = impl_SendWord k a0 a1 a2 := by kernel_rfl
theorem ok_impl_SendWord (k : Nat) : SummOk Try.prog cod 46 (S_impl_SendWord k) := by
  refine summ_of (T := T) Try.f46 (G_impl_SendWord) L_impl_SendWord false [.cell 6 69] 0 D_impl_SendWord mixed (fun k => Known.of tok eok codOk ?_) (fun k => QuietOk.of ?_) Try.func46 (by kernel_rfl) (by kernel_rfl) (by kernel_rfl) (by kernel_rfl) (by kernel_rfl) ?_ ?_ [] ?_
  · exact all_cons (ok_impl_ValidSend k) (all_cons (ok_impl_copySend k) (all_cons (ok_impl_in k) (all_nil)))
  · exact all_cons (fun h r => ⟨rfl, rfl⟩) (all_cons (fun h r => by cases h) (all_cons (fun h r => ⟨rfl, rfl⟩) (all_nil)))
  · intro v os r h
    unfold D_impl_SendWord at h
    split at h <;> first | (cases h; rfl) | cases h
  · refine all_cons ?_ (all_cons ?_ (all_cons ?_ (all_nil)))
    · refine ⟨fun vs os => ?_, by kernel_rfl, fun k vs os r h => ?_⟩
      · show C_impl_SendWord_5.fn 0 vs os = none
        unfold C_impl_SendWord_5; dsimp only; split <;> rfl
      · change C_impl_SendWord_5.fn (k + 1) vs os = some r at h
        unfold C_impl_SendWord_5 at h; dsimp only at h
        split at h
        · exact ⟨4000, (c_impl_SendWord_5 k _ _ _ _ _ _ _).trans h⟩
        · cases h
    · refine ⟨fun vs os => ?_, by kernel_rfl, fun k vs os r h => ?_⟩
      · show C_impl_SendWord_12.fn 0 vs os = none
        unfold C_impl_SendWord_12; dsimp only; split <;> rfl
      · change C_impl_SendWord_12.fn (k + 1) vs os = some r at h
        unfold C_impl_SendWord_12 at h; dsimp only at h
        split at h
        · exact ⟨4000, (c_impl_SendWord_12 k _ _ _ _ _ _).trans h⟩
        · cases h
    · refine ⟨fun vs os => ?_, by kernel_rfl, fun k vs os r h => ?_⟩
      · show C_impl_SendWord_13.fn 0 vs os = none
        unfold C_impl_SendWord_13; dsimp only; split <;> rfl
      · change C_impl_SendWord_13.fn (k + 1) vs os = some r at h
        unfold C_impl_SendWord_13 at h; dsimp only at h
        split at h
        · exact ⟨4000, (c_impl_SendWord_13 k _ _ _ _ _ _).trans h⟩
        · cases h
  · intro args os r h
    change (S_impl_SendWord k).run args os = some r at h
    unfold S_impl_SendWord at h; dsimp only at h
    split at h
    · exact ⟨Nat.le_of_ble_eq_true (by kernel_rfl), rfl, rfl, k, 4000, (e_impl_SendWord k ⟨_, _⟩ _ _).trans h⟩
    · cases h
noncomputable def S_laws_eqItem (k : Nat) : Summ K TyK where
  R := Bool
  modes := [.bo, .bo]
  run := fun args objs => match args, objs with
    | [.agg [.lit (.string v1), .lit (.bool v2), .lit (.bool v3), .lit (.int .i64 v4)], .agg [.lit (.string v5), .lit (.bool v6), .lit (.bool v7), .lit (.int .i64 v8)]], [] => laws_eqItem k (⟨(⟨v1, v2⟩ : DPart), v3, v4⟩ : DItem) (⟨(⟨v5, v6⟩ : DPart), v7, v8⟩ : DItem)
    | _, _ => none
  ret := fun r => (.lit (.bool r), [])
  quiet := true
noncomputable def D_laws_eqItem (v : V) (os : Objs K TyK) : Option (Bool) :=
  match v, os with
  | .lit (.bool v1), [] => some v1
  | _, _ => none
noncomputable abbrev G_laws_eqItem (k : Nat) : FuncId → Option (Summ K TyK) := lookT [(73, S_laws_eqPart k)]
noncomputable abbrev L_laws_eqItem : List (Nat × Cut K TyK (Bool)) := []
theorem e_laws_eqItem (k : Nat) (a0 : DItem) (a1 : DItem) : run cod T (G_laws_eqItem k) (lam L_laws_eqItem k) (cutsOf L_laws_eqItem) 0 (finish cod T false 0 [.tmp 4] D_laws_eqItem) 4000 false [.code (bodyOf Try.f118)] (envOf [0, 1] [.agg [.lit (.string a0.Part.Text), .lit (.bool a0.Part.Last), .lit (.bool a0.Has), .lit (.int .i64 a0.Since)], .agg [.lit (.string a1.Part.Text), .lit (.bool a1.Part.Last), .lit (.bool a1.Has), .lit (.int .i64 a1.Since)]]) [] = laws_eqItem k a0 a1 := by kernel_rfl
theorem ok_laws_eqItem (k : Nat) : SummOk Try.prog cod 118 (S_laws_eqItem k) := by
  refine summ_of (T := T) Try.f118 (G_laws_eqItem) L_laws_eqItem false [.tmp 4] 0 D_laws_eqItem mixed (fun k => Known.of tok eok codOk ?_) (fun k => QuietOk.of ?_) Try.func118 (by kernel_rfl) (by kernel_rfl) (by kernel_rfl) (by kernel_rfl) (by kernel_rfl) ?_ ?_ [] ?_
  · exact all_cons (ok_laws_eqPart k) (all_nil)
  · exact all_cons (fun h r => ⟨rfl, rfl⟩) (all_nil)
  · intro v os r h
    unfold D_laws_eqItem at h
    split at h <;> first | (cases h; rfl) | cases h
  · refine all_nil
  · intro args os r h
    change (S_laws_eqItem k).run args os = some r at h
    unfold S_laws_eqItem at h; dsimp only at h
    split at h
    · exact ⟨Nat.le_of_ble_eq_true (by kernel_rfl), rfl, rfl, k, 4000, (e_laws_eqItem k ⟨⟨_, _⟩, _, _⟩ ⟨⟨_, _⟩, _, _⟩).trans h⟩
    · cases h
noncomputable def S_laws_eqItemS (k : Nat) : Summ K TyK where
  R := Bool
  modes := [.bo, .bo]
  run := fun args objs => match args, objs with
    | [.inl true .item v1, .inl true .item v2], [] => laws_eqItemS k v1 v2
    | _, _ => none
  ret := fun r => (.lit (.bool r), [])
  quiet := true
noncomputable def D_laws_eqItemS (v : V) (os : Objs K TyK) : Option (Bool) :=
  match v, os with
  | .lit (.bool v1), [] => some v1
  | _, _ => none
noncomputable def C_laws_eqItemS_4 : Cut K TyK (Bool) where
  slots := [0, 1, 5]
  fn := fun k vs os => match vs, os with
    | [.inl true .item x0, .inl true .item x1, .lit (.int .i64 x2)], [] => laws_eqItemS_l4 k x0 x1 x2
    | _, _ => none
noncomputable abbrev G_laws_eqItemS (k : Nat) : FuncId → Option (Summ K TyK) := lookT [(118, S_laws_eqItem k)]
noncomputable abbrev L_laws_eqItemS : List (Nat × Cut K TyK (Bool)) := [(4, C_laws_eqItemS_4)]
theorem c_laws_eqItemS_4 (k : Nat) (x0 : List DItem) (x1 : List DItem) (x2 : Int) : run cod T (G_laws_eqItemS k) (lam L_laws_eqItemS k) (cutsOf L_laws_eqItemS) 0 (finish cod T false 0 [.tmp 4] D_laws_eqItemS) 4000 true (todoAt 4 (bodyOf Try.f99)) (envOf [0, 1, 5] [.inl true .item x0, .inl true .item x1, .lit (.int .i64 x2)]) [] = laws_eqItemS_l4 (k + 1) x0 x1 x2 := by kernel_rfl
theorem e_laws_eqItemS (k : Nat) (a0 : List DItem) (a1 : List DItem) : run cod T (G_laws_eqItemS k) (lam L_laws_eqItemS k) (cutsOf L_laws_eqItemS) 0 (finish cod T false 0 [.tmp 4] D_laws_eqItemS) 4000 false [.code (bodyOf Try.f99)] (envOf [0, 1] [.inl true .item a0, .inl true .item a1]) [] = laws_eqItemS k a0 a1 := by kernel_rfl
theorem ok_laws_eqItemS (k : Nat) : SummOk Try.prog cod 99 (S_laws_eqItemS k) := by
  refine summ_of (T := T) Try.f99 (G_laws_eqItemS) L_laws_eqItemS false [.tmp 4] 0 D_laws_eqItemS mixed (fun k => Known.of tok eok codOk ?_) (fun k => QuietOk.of ?_) Try.func99 (by kernel_rfl) (by kernel_rfl) (by kernel_rfl) (by kernel_rfl) (by kernel_rfl) ?_ ?_ [] ?_
  · exact all_cons (ok_laws_eqItem k) (all_nil)
  · exact all_cons (fun h r => ⟨rfl, rfl⟩) (all_nil)
  · intro v os r h
    unfold D_laws_eqItemS at h
    split at h <;> first | (cases h; rfl) | cases h
  · refine all_cons ?_ (all_nil)
    · refine ⟨fun vs os => ?_, by kernel_rfl, fun k vs os r h => ?_⟩
      · show C_laws_eqItemS_4.fn 0 vs os = none
        unfold C_laws_eqItemS_4; dsimp only; split <;> rfl
      · change C_laws_eqItemS_4.fn (k + 1) vs os = some r at h
        unfold C_laws_eqItemS_4 at h; dsimp only at h
        split at h
        · exact ⟨4000, (c_laws_eqItemS_4 k _ _ _).trans h⟩
        · cases h
  · intro args os r h
    change (S_laws_eqItemS k).run args os = some r at h
    unfold S_laws_eqItemS at h; dsimp only at h
    split at h
    · exact ⟨Nat.le_of_ble_eq_true (by kernel_rfl), rfl, rfl, k, 4000, (e_laws_eqItemS k _ _).trans h⟩
    · cases h
noncomputable def S_laws_eqSend (k : Nat) : Summ K TyK where
  R := Bool
  modes := [.bo, .bo]
  run := fun args objs => match args, objs with
    | [.agg [.lit (.int .i64 v1), .inl true .item v2], .agg [.lit (.int .i64 v3), .inl true .item v4]], [] => laws_eqSend k (⟨v1, v2⟩ : DSend) (⟨v3, v4⟩ : DSend)
    | _, _ => none
  ret := fun r => (.lit (.bool r), [])
  quiet := true
noncomputable def D_laws_eqSend (v : V) (os : Objs K TyK) : Option (Bool) :=
  match v, os with
  | .lit (.bool v1), [] => some v1
  | _, _ => none
noncomputable abbrev G_laws_eqSend (k : Nat) : FuncId → Option (Summ K TyK) := lookT [(99, S_laws_eqItemS k)]
noncomputable abbrev L_laws_eqSend : List (Nat × Cut K TyK (Bool)) := []
theorem e_laws_eqSend (k : Nat) (a0 : DSend) (a1 : DSend) : run cod T (G_laws_eqSend k) (lam L_laws_eqSend k) (cutsOf L_laws_eqSend) 0 (finish cod T false 0 [.tmp 4] D_laws_eqSend) 4000 false [.code (bodyOf Try.f47)] (envOf [0, 1] [.agg [.lit (.int .i64 a0.Base), .inl true .item a0.Items], .agg [.lit (.int .i64 a1.Base), .inl true .item a1.Items]]) [] = laws_eqSend k a0 a1 := by kernel_rfl
theorem ok_laws_eqSend (k : Nat) : SummOk Try.prog cod 47 (S_laws_eqSend k) := by
  refine summ_of (T := T) Try.f47 (G_laws_eqSend) L_laws_eqSend false [.tmp 4] 0 D_laws_eqSend mixed (fun k => Known.of tok eok codOk ?_) (fun k => QuietOk.of ?_) Try.func47 (by kernel_rfl) (by kernel_rfl) (by kernel_rfl) (by kernel_rfl) (by kernel_rfl) ?_ ?_ [] ?_
  · exact all_cons (ok_laws_eqItemS k) (all_nil)
  · exact all_cons (fun h r => ⟨rfl, rfl⟩) (all_nil)
  · intro v os r h
    unfold D_laws_eqSend at h
    split at h <;> first | (cases h; rfl) | cases h
  · refine all_nil
  · intro args os r h
    change (S_laws_eqSend k).run args os = some r at h
    unfold S_laws_eqSend at h; dsimp only at h
    split at h
    · exact ⟨Nat.le_of_ble_eq_true (by kernel_rfl), rfl, rfl, k, 4000, (e_laws_eqSend k ⟨_, _⟩ ⟨_, _⟩).trans h⟩
    · cases h
noncomputable def S_laws_markItemS (k : Nat) : Summ K TyK where
  R := Int × List DItem
  modes := [.mv, .mv]
  run := fun args objs => match args, objs with
    | [.own 0, .lit (.int .i64 v1)], [.sl .item v2] => laws_markItemS k v2 v1
    | _, _ => none
  ret := fun r => (.lit (.int .i64 r.1), [.sl .item r.2])
  quiet := false
noncomputable def D_laws_markItemS (v : V) (os : Objs K TyK) : Option (Int × List DItem) :=
  match v, os with
  | .lit (.int .i64 v1), [.sl .item v2] => some (v1, v2)
  | _, _ => none
noncomputable def C_laws_markItemS_2 : Cut K TyK (Int × List DItem) where
  slots := [0, 1, 5]
  fn := fun k vs os => match vs, os with
    | [.own 0, .lit (.int .i64 x0), .lit (.int .i64 x1)], [.sl .item x2] => laws_markItemS_l2 k x0 x1 x2
    | _, _ => none
noncomputable abbrev G_laws_markItemS (k : Nat) : FuncId → Option (Summ K TyK) := lookT [(74, S_laws_markText k)]
noncomputable abbrev L_laws_markItemS : List (Nat × Cut K TyK (Int × List DItem)) := [(2, C_laws_markItemS_2)]
theorem c_laws_markItemS_2 (k : Nat) (x0 : Int) (x1 : Int) (x2 : List DItem) : run cod T (G_laws_markItemS k) (lam L_laws_markItemS k) (cutsOf L_laws_markItemS) 1 (finish cod T false 1 [.tmp 4] D_laws_markItemS) 4000 true (todoAt 2 (bodyOf Try.f100)) (envOf [0, 1, 5] [.own 0, .lit (.int .i64 x0), .lit (.int .i64 x1)]) [.sl .item x2] = laws_markItemS_l2 (k + 1) x0 x1 x2 := by kernel_rfl
theorem e_laws_markItemS (k : Nat) (a0 : List DItem) (a1 : Int) : run cod T (G_laws_markItemS k) (lam L_laws_markItemS k) (cutsOf L_laws_markItemS) 1 (finish cod T false 1 [.tmp 4] D_laws_markItemS) 4000 false [.code (bodyOf Try.f100)] (envOf [0, 1] [.own 0, .lit (.int .i64 a1)]) [.sl .item a0] = laws_markItemS k a0 a1 := by kernel_rfl
theorem ok_laws_markItemS (k : Nat) : SummOk Try.prog cod 100 (S_laws_markItemS k) := by
  refine summ_of (T := T) Try.f100 (G_laws_markItemS) L_laws_markItemS false [.tmp 4] 1 D_laws_markItemS mixed (fun k => Known.of tok eok codOk ?_) (fun k => QuietOk.of ?_) Try.func100 (by kernel_rfl) (by kernel_rfl) (by kernel_rfl) (by kernel_rfl) (by kernel_rfl) ?_ ?_ [false] ?_
  · exact all_cons (ok_laws_markText k) (all_nil)
  · exact all_cons (fun h r => ⟨rfl, rfl⟩) (all_nil)
  · intro v os r h
    unfold D_laws_markItemS at h
    split at h <;> first | (cases h; rfl) | cases h
  · refine all_cons ?_ (all_nil)
    · refine ⟨fun vs os => ?_, by kernel_rfl, fun k vs os r h => ?_⟩
      · show C_laws_markItemS_2.fn 0 vs os = none
        unfold C_laws_markItemS_2; dsimp only; split <;> rfl
      · change C_laws_markItemS_2.fn (k + 1) vs os = some r at h
        unfold C_laws_markItemS_2 at h; dsimp only at h
        split at h
        · exact ⟨4000, (c_laws_markItemS_2 k _ _ _).trans h⟩
        · cases h
  · intro args os r h
    change (S_laws_markItemS k).run args os = some r at h
    unfold S_laws_markItemS at h; dsimp only at h
    split at h
    · exact ⟨Nat.le_of_ble_eq_true (by kernel_rfl), rfl, rfl, k, 4000, (e_laws_markItemS k _ _).trans h⟩
    · cases h
noncomputable def S_laws_markSend (k : Nat) : Summ K TyK where
  R := Int × List DItem
  modes := [.mv, .mv]
  run := fun args objs => match args, objs with
    | [.agg [.lit (.int .i64 v1), .own 0], .lit (.int .i64 v2)], [.sl .item v3] => laws_markSend k (⟨v1, v3⟩ : DSend) v2
    | _, _ => none
  ret := fun r => (.lit (.int .i64 r.1), [.sl .item r.2])
  quiet := false
noncomputable def D_laws_markSend (v : V) (os : Objs K TyK) : Option (Int × List DItem) :=
  match v, os with
  | .lit (.int .i64 v1), [.sl .item v2] => some (v1, v2)
  | _, _ => none
noncomputable abbrev G_laws_markSend (k : Nat) : FuncId → Option (Summ K TyK) := lookT [(100, S_laws_markItemS k)]
noncomputable abbrev L_laws_markSend : List (Nat × Cut K TyK (Int × List DItem)) := []
theorem e_laws_markSend (k : Nat) (a0 : DSend) (a1 : Int) : run cod T (G_laws_markSend k) (lam L_laws_markSend k) (cutsOf L_laws_markSend) 1 (finish cod T false 1 [.tmp 4] D_laws_markSend) 4000 false [.code (bodyOf Try.f48)] (envOf [0, 1] [.agg [.lit (.int .i64 a0.Base), .own 0], .lit (.int .i64 a1)]) [.sl .item a0.Items] = laws_markSend k a0 a1 := by kernel_rfl
theorem ok_laws_markSend (k : Nat) : SummOk Try.prog cod 48 (S_laws_markSend k) := by
  refine summ_of (T := T) Try.f48 (G_laws_markSend) L_laws_markSend false [.tmp 4] 1 D_laws_markSend mixed (fun k => Known.of tok eok codOk ?_) (fun k => QuietOk.of ?_) Try.func48 (by kernel_rfl) (by kernel_rfl) (by kernel_rfl) (by kernel_rfl) (by kernel_rfl) ?_ ?_ [false] ?_
  · exact all_cons (ok_laws_markItemS k) (all_nil)
  · exact all_cons (fun h r => by cases h) (all_nil)
  · intro v os r h
    unfold D_laws_markSend at h
    split at h <;> first | (cases h; rfl) | cases h
  · refine all_nil
  · intro args os r h
    change (S_laws_markSend k).run args os = some r at h
    unfold S_laws_markSend at h; dsimp only at h
    split at h
    · exact ⟨Nat.le_of_ble_eq_true (by kernel_rfl), rfl, rfl, k, 4000, (e_laws_markSend k ⟨_, _⟩ _).trans h⟩
    · cases h
noncomputable def S_laws_heldItemS (k : Nat) : Summ K TyK where
  R := Int
  modes := [.bo, .bo]
  run := fun args objs => match args, objs with
    | [.inl true .item v1, .lit (.int .i64 v2)], [] => laws_heldItemS k v1 v2
    | _, _ => none
  ret := fun r => (.lit (.int .i64 r), [])
  quiet := true
noncomputable def D_laws_heldItemS (v : V) (os : Objs K TyK) : Option (Int) :=
  match v, os with
  | .lit (.int .i64 v1), [] => some v1
  | _, _ => none
noncomputable def C_laws_heldItemS_2 : Cut K TyK (Int) where
  slots := [0, 1, 5]
  fn := fun k vs os => match vs, os with
    | [.inl true .item x0, .lit (.int .i64 x1), .lit (.int .i64 x2)], [] => laws_heldItemS_l2 k x0 x1 x2
    | _, _ => none
noncomputable abbrev G_laws_heldItemS (k : Nat) : FuncId → Option (Summ K TyK) := lookT [(74, S_laws_markText k)]
noncomputable abbrev L_laws_heldItemS : List (Nat × Cut K TyK (Int)) := [(2, C_laws_heldItemS_2)]
theorem c_laws_heldItemS_2 (k : Nat) (x0 : List DItem) (x1 : Int) (x2 : Int) : run cod T (G_laws_heldItemS k) (lam L_laws_heldItemS k) (cutsOf L_laws_heldItemS) 0 (finish cod T false 0 [.tmp 4] D_laws_heldItemS) 4000 true (todoAt 2 (bodyOf Try.f101)) (envOf [0, 1, 5] [.inl true .item x0, .lit (.int .i64 x1), .lit (.int .i64 x2)]) [] = laws_heldItemS_l2 (k + 1) x0 x1 x2 := by kernel_rfl
theorem e_laws_heldItemS (k : Nat) (a0 : List DItem) (a1 : Int) : run cod T (G_laws_heldItemS k) (lam L_laws_heldItemS k) (cutsOf L_laws_heldItemS) 0 (finish cod T false 0 [.tmp 4] D_laws_heldItemS) 4000 false [.code (bodyOf Try.f101)] (envOf [0, 1] [.inl true .item a0, .lit (.int .i64 a1)]) [] = laws_heldItemS k a0 a1 := by kernel_rfl
theorem ok_laws_heldItemS (k : Nat) : SummOk Try.prog cod 101 (S_laws_heldItemS k) := by
  refine summ_of (T := T) Try.f101 (G_laws_heldItemS) L_laws_heldItemS false [.tmp 4] 0 D_laws_heldItemS mixed (fun k => Known.of tok eok codOk ?_) (fun k => QuietOk.of ?_) Try.func101 (by kernel_rfl) (by kernel_rfl) (by kernel_rfl) (by kernel_rfl) (by kernel_rfl) ?_ ?_ [] ?_
  · exact all_cons (ok_laws_markText k) (all_nil)
  · exact all_cons (fun h r => ⟨rfl, rfl⟩) (all_nil)
  · intro v os r h
    unfold D_laws_heldItemS at h
    split at h <;> first | (cases h; rfl) | cases h
  · refine all_cons ?_ (all_nil)
    · refine ⟨fun vs os => ?_, by kernel_rfl, fun k vs os r h => ?_⟩
      · show C_laws_heldItemS_2.fn 0 vs os = none
        unfold C_laws_heldItemS_2; dsimp only; split <;> rfl
      · change C_laws_heldItemS_2.fn (k + 1) vs os = some r at h
        unfold C_laws_heldItemS_2 at h; dsimp only at h
        split at h
        · exact ⟨4000, (c_laws_heldItemS_2 k _ _ _).trans h⟩
        · cases h
  · intro args os r h
    change (S_laws_heldItemS k).run args os = some r at h
    unfold S_laws_heldItemS at h; dsimp only at h
    split at h
    · exact ⟨Nat.le_of_ble_eq_true (by kernel_rfl), rfl, rfl, k, 4000, (e_laws_heldItemS k _ _).trans h⟩
    · cases h
noncomputable def S_laws_heldSend (k : Nat) : Summ K TyK where
  R := Int
  modes := [.bo, .bo]
  run := fun args objs => match args, objs with
    | [.agg [.lit (.int .i64 v1), .inl true .item v2], .lit (.int .i64 v3)], [] => laws_heldSend k (⟨v1, v2⟩ : DSend) v3
    | _, _ => none
  ret := fun r => (.lit (.int .i64 r), [])
  quiet := true
noncomputable def D_laws_heldSend (v : V) (os : Objs K TyK) : Option (Int) :=
  match v, os with
  | .lit (.int .i64 v1), [] => some v1
  | _, _ => none
noncomputable abbrev G_laws_heldSend (k : Nat) : FuncId → Option (Summ K TyK) := lookT [(101, S_laws_heldItemS k)]
noncomputable abbrev L_laws_heldSend : List (Nat × Cut K TyK (Int)) := []
theorem e_laws_heldSend (k : Nat) (a0 : DSend) (a1 : Int) : run cod T (G_laws_heldSend k) (lam L_laws_heldSend k) (cutsOf L_laws_heldSend) 0 (finish cod T false 0 [.tmp 4] D_laws_heldSend) 4000 false [.code (bodyOf Try.f49)] (envOf [0, 1] [.agg [.lit (.int .i64 a0.Base), .inl true .item a0.Items], .lit (.int .i64 a1)]) [] = laws_heldSend k a0 a1 := by kernel_rfl
theorem ok_laws_heldSend (k : Nat) : SummOk Try.prog cod 49 (S_laws_heldSend k) := by
  refine summ_of (T := T) Try.f49 (G_laws_heldSend) L_laws_heldSend false [.tmp 4] 0 D_laws_heldSend mixed (fun k => Known.of tok eok codOk ?_) (fun k => QuietOk.of ?_) Try.func49 (by kernel_rfl) (by kernel_rfl) (by kernel_rfl) (by kernel_rfl) (by kernel_rfl) ?_ ?_ [] ?_
  · exact all_cons (ok_laws_heldItemS k) (all_nil)
  · exact all_cons (fun h r => ⟨rfl, rfl⟩) (all_nil)
  · intro v os r h
    unfold D_laws_heldSend at h
    split at h <;> first | (cases h; rfl) | cases h
  · refine all_nil
  · intro args os r h
    change (S_laws_heldSend k).run args os = some r at h
    unfold S_laws_heldSend at h; dsimp only at h
    split at h
    · exact ⟨Nat.le_of_ble_eq_true (by kernel_rfl), rfl, rfl, k, 4000, (e_laws_heldSend k ⟨_, _⟩ _).trans h⟩
    · cases h
noncomputable def S_laws_FnExactSendWord (k : Nat) : Summ K TyK where
  R := Bool
  modes := [.pe, .pe, .pe]
  run := fun args objs => match args, objs with
    | [.agg [.lit (.int .i64 v1), .inl false .item v2], .lit (.int .i64 v3), .lit (.int .i64 v4)], [] => laws_FnExactSendWord k (⟨v1, v2⟩ : DSend) v3 v4
    | _, _ => none
  ret := fun r => (.lit (.bool r), [])
  quiet := true
noncomputable def D_laws_FnExactSendWord (v : V) (os : Objs K TyK) : Option (Bool) :=
  match v, os with
  | .lit (.bool v1), [] => some v1
  | _, _ => none
noncomputable abbrev G_laws_FnExactSendWord (k : Nat) : FuncId → Option (Summ K TyK) := lookT [(43, S_laws_szSend k), (45, S_laws_toSend k), (44, S_spec_SendWord k), (46, S_impl_SendWord k), (47, S_laws_eqSend k), (48, S_laws_markSend k), (49, S_laws_heldSend k)]
noncomputable abbrev L_laws_FnExactSendWord : List (Nat × Cut K TyK (Bool)) := []
theorem e_laws_FnExactSendWord (k : Nat) (a0 : DSend) (a1 : Int) (a2 : Int) : run cod T (G_laws_FnExactSendWord k) (lam L_laws_FnExactSendWord k) (cutsOf L_laws_FnExactSendWord) 0 (finish cod T false 0 [.tmp 6] D_laws_FnExactSendWord) 4000 false [.code (bodyOf Try.f9)] (envOf [0, 1, 2] [.agg [.lit (.int .i64 a0.Base), .inl false .item a0.Items], .lit (.int .i64 a1), .lit (.int .i64 a2)]) [] = laws_FnExactSendWord k a0 a1 a2 := by kernel_rfl
theorem ok_laws_FnExactSendWord (k : Nat) : SummOk Try.prog cod 9 (S_laws_FnExactSendWord k) := by
  refine summ_of (T := T) Try.f9 (G_laws_FnExactSendWord) L_laws_FnExactSendWord false [.tmp 6] 0 D_laws_FnExactSendWord mixed (fun k => Known.of tok eok codOk ?_) (fun k => QuietOk.of ?_) Try.func9 (by kernel_rfl) (by kernel_rfl) (by kernel_rfl) (by kernel_rfl) (by kernel_rfl) ?_ ?_ [] ?_
  · exact all_cons (ok_laws_szSend k) (all_cons (ok_laws_toSend k) (all_cons (ok_spec_SendWord k) (all_cons (ok_impl_SendWord k) (all_cons (ok_laws_eqSend k) (all_cons (ok_laws_markSend k) (all_cons (ok_laws_heldSend k) (all_nil)))))))
  · exact all_cons (fun h r => ⟨rfl, rfl⟩) (all_cons (fun h r => by cases h) (all_cons (fun h r => by cases h) (all_cons (fun h r => by cases h) (all_cons (fun h r => ⟨rfl, rfl⟩) (all_cons (fun h r => by cases h) (all_cons (fun h r => ⟨rfl, rfl⟩) (all_nil)))))))
  · intro v os r h
    unfold D_laws_FnExactSendWord at h
    split at h <;> first | (cases h; rfl) | cases h
  · refine all_nil
  · intro args os r h
    change (S_laws_FnExactSendWord k).run args os = some r at h
    unfold S_laws_FnExactSendWord at h; dsimp only at h
    split at h
    · exact ⟨Nat.le_of_ble_eq_true (by kernel_rfl), rfl, rfl, k, 4000, (e_laws_FnExactSendWord k ⟨_, _⟩ _ _).trans h⟩
    · cases h
end Km.X
