/- A part of the proof of FnExactEndTake: each function does what its reading says. There is no condition. -/
import Derived.Test.YtnhnpggoknepfaaKmSeat
import Derived.Test.YtnhnpggoknepfaaKxDef2
namespace Km.X
open Go Km Go.Proofs
set_option linter.unusedVariables false
set_option maxRecDepth 100000
set_option maxHeartbeats 4000000
noncomputable def S_laws_szPart (k : Nat) : Summ K TyK where
  R := Int
  modes := [.bo, .bo]
  run := fun args objs => match args, objs with
    | [.agg [.lit (.string v1), .lit (.bool v2)], .lit (.int .i64 v3)], [] => laws_szPart k (⟨v1, v2⟩ : DPart) v3
    | _, _ => none
  ret := fun r => (.lit (.int .i64 r), [])
  quiet := true
noncomputable def D_laws_szPart (v : V) (os : Objs K TyK) : Option (Int) :=
  match v, os with
  | .lit (.int .i64 v1), [] => some v1
  | _, _ => none
noncomputable abbrev G_laws_szPart (k : Nat) : FuncId → Option (Summ K TyK) := lookT []
noncomputable abbrev L_laws_szPart : List (Nat × Cut K TyK (Int)) := []
theorem e_laws_szPart (k : Nat) (a0 : DPart) (a1 : Int) : run cod T (G_laws_szPart k) (lam L_laws_szPart k) (cutsOf L_laws_szPart) 0 (finish cod T false 0 [.tmp 4] D_laws_szPart) 4000 false [.code (bodyOf Try.f177)] (envOf [0, 1] [.agg [.lit (.string a0.Text), .lit (.bool a0.Last)], .lit (.int .i64 a1)]) [] = laws_szPart k a0 a1 := by kernel_rfl
theorem ok_laws_szPart (k : Nat) : SummOk Try.prog cod 177 (S_laws_szPart k) := by
  refine summ_of (T := T) Try.f177 (G_laws_szPart) L_laws_szPart false [.tmp 4] 0 D_laws_szPart mixed (fun k => Known.of tok eok codOk ?_) (fun k => QuietOk.of ?_) Try.func177 (by kernel_rfl) (by kernel_rfl) (by kernel_rfl) (by kernel_rfl) (by kernel_rfl) ?_ ?_ [] ?_
  · exact all_nil
  · exact all_nil
  · intro v os r h
    unfold D_laws_szPart at h
    split at h <;> first | (cases h; rfl) | cases h
  · refine all_nil
  · intro args os r h
    change (S_laws_szPart k).run args os = some r at h
    unfold S_laws_szPart at h; dsimp only at h
    split at h
    · exact ⟨Nat.le_of_ble_eq_true (by kernel_rfl), rfl, rfl, k, 4000, (e_laws_szPart k ⟨_, _⟩ _).trans h⟩
    · cases h
noncomputable def S_laws_szItem (k : Nat) : Summ K TyK where
  R := Int
  modes := [.bo, .bo]
  run := fun args objs => match args, objs with
    | [.agg [.lit (.string v1), .lit (.bool v2), .lit (.bool v3), .lit (.int .i64 v4)], .lit (.int .i64 v5)], [] => laws_szItem k (⟨(⟨v1, v2⟩ : DPart), v3, v4⟩ : DItem) v5
    | _, _ => none
  ret := fun r => (.lit (.int .i64 r), [])
  quiet := true
noncomputable def D_laws_szItem (v : V) (os : Objs K TyK) : Option (Int) :=
  match v, os with
  | .lit (.int .i64 v1), [] => some v1
  | _, _ => none
noncomputable abbrev G_laws_szItem (k : Nat) : FuncId → Option (Summ K TyK) := lookT [(177, S_laws_szPart k)]
noncomputable abbrev L_laws_szItem : List (Nat × Cut K TyK (Int)) := []
theorem e_laws_szItem (k : Nat) (a0 : DItem) (a1 : Int) : run cod T (G_laws_szItem k) (lam L_laws_szItem k) (cutsOf L_laws_szItem) 0 (finish cod T false 0 [.tmp 4] D_laws_szItem) 4000 false [.code (bodyOf Try.f159)] (envOf [0, 1] [.agg [.lit (.string a0.Part.Text), .lit (.bool a0.Part.Last), .lit (.bool a0.Has), .lit (.int .i64 a0.Since)], .lit (.int .i64 a1)]) [] = laws_szItem k a0 a1 := by kernel_rfl
theorem ok_laws_szItem (k : Nat) : SummOk Try.prog cod 159 (S_laws_szItem k) := by
  refine summ_of (T := T) Try.f159 (G_laws_szItem) L_laws_szItem false [.tmp 4] 0 D_laws_szItem mixed (fun k => Known.of tok eok codOk ?_) (fun k => QuietOk.of ?_) Try.func159 (by kernel_rfl) (by kernel_rfl) (by kernel_rfl) (by kernel_rfl) (by kernel_rfl) ?_ ?_ [] ?_
  · exact all_cons (ok_laws_szPart k) (all_nil)
  · exact all_cons (fun h r => ⟨rfl, rfl⟩) (all_nil)
  · intro v os r h
    unfold D_laws_szItem at h
    split at h <;> first | (cases h; rfl) | cases h
  · refine all_nil
  · intro args os r h
    change (S_laws_szItem k).run args os = some r at h
    unfold S_laws_szItem at h; dsimp only at h
    split at h
    · exact ⟨Nat.le_of_ble_eq_true (by kernel_rfl), rfl, rfl, k, 4000, (e_laws_szItem k ⟨⟨_, _⟩, _, _⟩ _).trans h⟩
    · cases h
noncomputable def S_laws_szItemS (k : Nat) : Summ K TyK where
  R := Int
  modes := [.bo, .bo]
  run := fun args objs => match args, objs with
    | [.inl true .item v1, .lit (.int .i64 v2)], [] => laws_szItemS k v1 v2
    | _, _ => none
  ret := fun r => (.lit (.int .i64 r), [])
  quiet := true
noncomputable def D_laws_szItemS (v : V) (os : Objs K TyK) : Option (Int) :=
  match v, os with
  | .lit (.int .i64 v1), [] => some v1
  | _, _ => none
noncomputable def C_laws_szItemS_5 : Cut K TyK (Int) where
  slots := [0, 1, 5]
  fn := fun k vs os => match vs, os with
    | [.inl true .item x0, .lit (.int .i64 x1), .lit (.int .i64 x2)], [] => laws_szItemS_l5 k x0 x1 x2
    | _, _ => none
noncomputable abbrev G_laws_szItemS (k : Nat) : FuncId → Option (Summ K TyK) := lookT [(159, S_laws_szItem k)]
noncomputable abbrev L_laws_szItemS : List (Nat × Cut K TyK (Int)) := [(5, C_laws_szItemS_5)]
theorem c_laws_szItemS_5 (k : Nat) (x0 : List DItem) (x1 : Int) (x2 : Int) : run cod T (G_laws_szItemS k) (lam L_laws_szItemS k) (cutsOf L_laws_szItemS) 0 (finish cod T false 0 [.tmp 4] D_laws_szItemS) 4000 true (todoAt 5 (bodyOf Try.f115)) (envOf [0, 1, 5] [.inl true .item x0, .lit (.int .i64 x1), .lit (.int .i64 x2)]) [] = laws_szItemS_l5 (k + 1) x0 x1 x2 := by kernel_rfl
theorem e_laws_szItemS (k : Nat) (a0 : List DItem) (a1 : Int) : run cod T (G_laws_szItemS k) (lam L_laws_szItemS k) (cutsOf L_laws_szItemS) 0 (finish cod T false 0 [.tmp 4] D_laws_szItemS) 4000 false [.code (bodyOf Try.f115)] (envOf [0, 1] [.inl true .item a0, .lit (.int .i64 a1)]) [] = laws_szItemS k a0 a1 := by kernel_rfl
theorem ok_laws_szItemS (k : Nat) : SummOk Try.prog cod 115 (S_laws_szItemS k) := by
  refine summ_of (T := T) Try.f115 (G_laws_szItemS) L_laws_szItemS false [.tmp 4] 0 D_laws_szItemS mixed (fun k => Known.of tok eok codOk ?_) (fun k => QuietOk.of ?_) Try.func115 (by kernel_rfl) (by kernel_rfl) (by kernel_rfl) (by kernel_rfl) (by kernel_rfl) ?_ ?_ [] ?_
  · exact all_cons (ok_laws_szItem k) (all_nil)
  · exact all_cons (fun h r => ⟨rfl, rfl⟩) (all_nil)
  · intro v os r h
    unfold D_laws_szItemS at h
    split at h <;> first | (cases h; rfl) | cases h
  · refine all_cons ?_ (all_nil)
    · refine ⟨fun vs os => ?_, by kernel_rfl, fun k vs os r h => ?_⟩
      · show C_laws_szItemS_5.fn 0 vs os = none
        unfold C_laws_szItemS_5; dsimp only; split <;> rfl
      · change C_laws_szItemS_5.fn (k + 1) vs os = some r at h
        unfold C_laws_szItemS_5 at h; dsimp only at h
        split at h
        · exact ⟨4000, (c_laws_szItemS_5 k _ _ _).trans h⟩
        · cases h
  · intro args os r h
    change (S_laws_szItemS k).run args os = some r at h
    unfold S_laws_szItemS at h; dsimp only at h
    split at h
    · exact ⟨Nat.le_of_ble_eq_true (by kernel_rfl), rfl, rfl, k, 4000, (e_laws_szItemS k _ _).trans h⟩
    · cases h
noncomputable def S_laws_szSend (k : Nat) : Summ K TyK where
  R := Int
  modes := [.bo, .bo]
  run := fun args objs => match args, objs with
    | [.agg [.lit (.int .i64 v1), .inl true .item v2], .lit (.int .i64 v3)], [] => laws_szSend k (⟨v1, v2⟩ : DSend) v3
    | _, _ => none
  ret := fun r => (.lit (.int .i64 r), [])
  quiet := true
noncomputable def D_laws_szSend (v : V) (os : Objs K TyK) : Option (Int) :=
  match v, os with
  | .lit (.int .i64 v1), [] => some v1
  | _, _ => none
noncomputable abbrev G_laws_szSend (k : Nat) : FuncId → Option (Summ K TyK) := lookT [(115, S_laws_szItemS k)]
noncomputable abbrev L_laws_szSend : List (Nat × Cut K TyK (Int)) := []
theorem e_laws_szSend (k : Nat) (a0 : DSend) (a1 : Int) : run cod T (G_laws_szSend k) (lam L_laws_szSend k) (cutsOf L_laws_szSend) 0 (finish cod T false 0 [.tmp 4] D_laws_szSend) 4000 false [.code (bodyOf Try.f50)] (envOf [0, 1] [.agg [.lit (.int .i64 a0.Base), .inl true .item a0.Items], .lit (.int .i64 a1)]) [] = laws_szSend k a0 a1 := by kernel_rfl
theorem ok_laws_szSend (k : Nat) : SummOk Try.prog cod 50 (S_laws_szSend k) := by
  refine summ_of (T := T) Try.f50 (G_laws_szSend) L_laws_szSend false [.tmp 4] 0 D_laws_szSend mixed (fun k => Known.of tok eok codOk ?_) (fun k => QuietOk.of ?_) Try.func50 (by kernel_rfl) (by kernel_rfl) (by kernel_rfl) (by kernel_rfl) (by kernel_rfl) ?_ ?_ [] ?_
  · exact all_cons (ok_laws_szItemS k) (all_nil)
  · exact all_cons (fun h r => ⟨rfl, rfl⟩) (all_nil)
  · intro v os r h
    unfold D_laws_szSend at h
    split at h <;> first | (cases h; rfl) | cases h
  · refine all_nil
  · intro args os r h
    change (S_laws_szSend k).run args os = some r at h
    unfold S_laws_szSend at h; dsimp only at h
    split at h
    · exact ⟨Nat.le_of_ble_eq_true (by kernel_rfl), rfl, rfl, k, 4000, (e_laws_szSend k ⟨_, _⟩ _).trans h⟩
    · cases h
noncomputable def S_laws_szHeld (k : Nat) : Summ K TyK where
  R := Int
  modes := [.bo, .bo]
  run := fun args objs => match args, objs with
    | [.agg [.lit (.int .i64 v1), .lit (.string v2), .lit (.bool v3)], .lit (.int .i64 v4)], [] => laws_szHeld k (⟨v1, (⟨v2, v3⟩ : DPart)⟩ : DHeld) v4
    | _, _ => none
  ret := fun r => (.lit (.int .i64 r), [])
  quiet := true
noncomputable def D_laws_szHeld (v : V) (os : Objs K TyK) : Option (Int) :=
  match v, os with
  | .lit (.int .i64 v1), [] => some v1
  | _, _ => none
noncomputable abbrev G_laws_szHeld (k : Nat) : FuncId → Option (Summ K TyK) := lookT [(177, S_laws_szPart k)]
noncomputable abbrev L_laws_szHeld : List (Nat × Cut K TyK (Int)) := []
theorem e_laws_szHeld (k : Nat) (a0 : DHeld) (a1 : Int) : run cod T (G_laws_szHeld k) (lam L_laws_szHeld k) (cutsOf L_laws_szHeld) 0 (finish cod T false 0 [.tmp 4] D_laws_szHeld) 4000 false [.code (bodyOf Try.f160)] (envOf [0, 1] [.agg [.lit (.int .i64 a0.Seq), .lit (.string a0.Part.Text), .lit (.bool a0.Part.Last)], .lit (.int .i64 a1)]) [] = laws_szHeld k a0 a1 := by kernel_rfl
theorem ok_laws_szHeld (k : Nat) : SummOk Try.prog cod 160 (S_laws_szHeld k) := by
  refine summ_of (T := T) Try.f160 (G_laws_szHeld) L_laws_szHeld false [.tmp 4] 0 D_laws_szHeld mixed (fun k => Known.of tok eok codOk ?_) (fun k => QuietOk.of ?_) Try.func160 (by kernel_rfl) (by kernel_rfl) (by kernel_rfl) (by kernel_rfl) (by kernel_rfl) ?_ ?_ [] ?_
  · exact all_cons (ok_laws_szPart k) (all_nil)
  · exact all_cons (fun h r => ⟨rfl, rfl⟩) (all_nil)
  · intro v os r h
    unfold D_laws_szHeld at h
    split at h <;> first | (cases h; rfl) | cases h
  · refine all_nil
  · intro args os r h
    change (S_laws_szHeld k).run args os = some r at h
    unfold S_laws_szHeld at h; dsimp only at h
    split at h
    · exact ⟨Nat.le_of_ble_eq_true (by kernel_rfl), rfl, rfl, k, 4000, (e_laws_szHeld k ⟨_, ⟨_, _⟩⟩ _).trans h⟩
    · cases h
noncomputable def S_laws_szHeldS (k : Nat) : Summ K TyK where
  R := Int
  modes := [.bo, .bo]
  run := fun args objs => match args, objs with
    | [.inl true .held v1, .lit (.int .i64 v2)], [] => laws_szHeldS k v1 v2
    | _, _ => none
  ret := fun r => (.lit (.int .i64 r), [])
  quiet := true
noncomputable def D_laws_szHeldS (v : V) (os : Objs K TyK) : Option (Int) :=
  match v, os with
  | .lit (.int .i64 v1), [] => some v1
  | _, _ => none
noncomputable def C_laws_szHeldS_5 : Cut K TyK (Int) where
  slots := [0, 1, 5]
  fn := fun k vs os => match vs, os with
    | [.inl true .held x0, .lit (.int .i64 x1), .lit (.int .i64 x2)], [] => laws_szHeldS_l5 k x0 x1 x2
    | _, _ => none
noncomputable abbrev G_laws_szHeldS (k : Nat) : FuncId → Option (Summ K TyK) := lookT [(160, S_laws_szHeld k)]
noncomputable abbrev L_laws_szHeldS : List (Nat × Cut K TyK (Int)) := [(5, C_laws_szHeldS_5)]
theorem c_laws_szHeldS_5 (k : Nat) (x0 : List DHeld) (x1 : Int) (x2 : Int) : run cod T (G_laws_szHeldS k) (lam L_laws_szHeldS k) (cutsOf L_laws_szHeldS) 0 (finish cod T false 0 [.tmp 4] D_laws_szHeldS) 4000 true (todoAt 5 (bodyOf Try.f116)) (envOf [0, 1, 5] [.inl true .held x0, .lit (.int .i64 x1), .lit (.int .i64 x2)]) [] = laws_szHeldS_l5 (k + 1) x0 x1 x2 := by kernel_rfl
theorem e_laws_szHeldS (k : Nat) (a0 : List DHeld) (a1 : Int) : run cod T (G_laws_szHeldS k) (lam L_laws_szHeldS k) (cutsOf L_laws_szHeldS) 0 (finish cod T false 0 [.tmp 4] D_laws_szHeldS) 4000 false [.code (bodyOf Try.f116)] (envOf [0, 1] [.inl true .held a0, .lit (.int .i64 a1)]) [] = laws_szHeldS k a0 a1 := by kernel_rfl
theorem ok_laws_szHeldS (k : Nat) : SummOk Try.prog cod 116 (S_laws_szHeldS k) := by
  refine summ_of (T := T) Try.f116 (G_laws_szHeldS) L_laws_szHeldS false [.tmp 4] 0 D_laws_szHeldS mixed (fun k => Known.of tok eok codOk ?_) (fun k => QuietOk.of ?_) Try.func116 (by kernel_rfl) (by kernel_rfl) (by kernel_rfl) (by kernel_rfl) (by kernel_rfl) ?_ ?_ [] ?_
  · exact all_cons (ok_laws_szHeld k) (all_nil)
  · exact all_cons (fun h r => ⟨rfl, rfl⟩) (all_nil)
  · intro v os r h
    unfold D_laws_szHeldS at h
    split at h <;> first | (cases h; rfl) | cases h
  · refine all_cons ?_ (all_nil)
    · refine ⟨fun vs os => ?_, by kernel_rfl, fun k vs os r h => ?_⟩
      · show C_laws_szHeldS_5.fn 0 vs os = none
        unfold C_laws_szHeldS_5; dsimp only; split <;> rfl
      · change C_laws_szHeldS_5.fn (k + 1) vs os = some r at h
        unfold C_laws_szHeldS_5 at h; dsimp only at h
        split at h
        · exact ⟨4000, (c_laws_szHeldS_5 k _ _ _).trans h⟩
        · cases h
  · intro args os r h
    change (S_laws_szHeldS k).run args os = some r at h
    unfold S_laws_szHeldS at h; dsimp only at h
    split at h
    · exact ⟨Nat.le_of_ble_eq_true (by kernel_rfl), rfl, rfl, k, 4000, (e_laws_szHeldS k _ _).trans h⟩
    · cases h
noncomputable def S_laws_szStringS (k : Nat) : Summ K TyK where
  R := Int
  modes := [.bo, .bo]
  run := fun args objs => match args, objs with
    | [.inl true .str v1, .lit (.int .i64 v2)], [] => laws_szStringS k v1 v2
    | _, _ => none
  ret := fun r => (.lit (.int .i64 r), [])
  quiet := true
noncomputable def D_laws_szStringS (v : V) (os : Objs K TyK) : Option (Int) :=
  match v, os with
  | .lit (.int .i64 v1), [] => some v1
  | _, _ => none
noncomputable def C_laws_szStringS_5 : Cut K TyK (Int) where
  slots := [0, 1, 5]
  fn := fun k vs os => match vs, os with
    | [.inl true .str x0, .lit (.int .i64 x1), .lit (.int .i64 x2)], [] => laws_szStringS_l5 k x0 x1 x2
    | _, _ => none
noncomputable abbrev G_laws_szStringS (k : Nat) : FuncId → Option (Summ K TyK) := lookT []
noncomputable abbrev L_laws_szStringS : List (Nat × Cut K TyK (Int)) := [(5, C_laws_szStringS_5)]
theorem c_laws_szStringS_5 (k : Nat) (x0 : List ByteArray) (x1 : Int) (x2 : Int) : run cod T (G_laws_szStringS k) (lam L_laws_szStringS k) (cutsOf L_laws_szStringS) 0 (finish cod T false 0 [.tmp 4] D_laws_szStringS) 4000 true (todoAt 5 (bodyOf Try.f117)) (envOf [0, 1, 5] [.inl true .str x0, .lit (.int .i64 x1), .lit (.int .i64 x2)]) [] = laws_szStringS_l5 (k + 1) x0 x1 x2 := by kernel_rfl
theorem e_laws_szStringS (k : Nat) (a0 : List ByteArray) (a1 : Int) : run cod T (G_laws_szStringS k) (lam L_laws_szStringS k) (cutsOf L_laws_szStringS) 0 (finish cod T false 0 [.tmp 4] D_laws_szStringS) 4000 false [.code (bodyOf Try.f117)] (envOf [0, 1] [.inl true .str a0, .lit (.int .i64 a1)]) [] = laws_szStringS k a0 a1 := by kernel_rfl
theorem ok_laws_szStringS (k : Nat) : SummOk Try.prog cod 117 (S_laws_szStringS k) := by
  refine summ_of (T := T) Try.f117 (G_laws_szStringS) L_laws_szStringS false [.tmp 4] 0 D_laws_szStringS mixed (fun k => Known.of tok eok codOk ?_) (fun k => QuietOk.of ?_) Try.func117 (by kernel_rfl) (by kernel_rfl) (by kernel_rfl) (by kernel_rfl) (by kernel_rfl) ?_ ?_ [] ?_
  · exact all_nil
  · exact all_nil
  · intro v os r h
    unfold D_laws_szStringS at h
    split at h <;> first | (cases h; rfl) | cases h
  · refine all_cons ?_ (all_nil)
    · refine ⟨fun vs os => ?_, by kernel_rfl, fun k vs os r h => ?_⟩
      · show C_laws_szStringS_5.fn 0 vs os = none
        unfold C_laws_szStringS_5; dsimp only; split <;> rfl
      · change C_laws_szStringS_5.fn (k + 1) vs os = some r at h
        unfold C_laws_szStringS_5 at h; dsimp only at h
        split at h
        · exact ⟨4000, (c_laws_szStringS_5 k _ _ _).trans h⟩
        · cases h
  · intro args os r h
    change (S_laws_szStringS k).run args os = some r at h
    unfold S_laws_szStringS at h; dsimp only at h
    split at h
    · exact ⟨Nat.le_of_ble_eq_true (by kernel_rfl), rfl, rfl, k, 4000, (e_laws_szStringS k _ _).trans h⟩
    · cases h
noncomputable def S_laws_szTake (k : Nat) : Summ K TyK where
  R := Int
  modes := [.bo, .bo]
  run := fun args objs => match args, objs with
    | [.agg [.lit (.int .i64 v1), .inl true .held v2, .lit (.string v3), .inl true .str v4], .lit (.int .i64 v5)], [] => laws_szTake k (⟨v1, v2, v3, v4⟩ : DTake) v5
    | _, _ => none
  ret := fun r => (.lit (.int .i64 r), [])
  quiet := true
noncomputable def D_laws_szTake (v : V) (os : Objs K TyK) : Option (Int) :=
  match v, os with
  | .lit (.int .i64 v1), [] => some v1
  | _, _ => none
noncomputable abbrev G_laws_szTake (k : Nat) : FuncId → Option (Summ K TyK) := lookT [(116, S_laws_szHeldS k), (117, S_laws_szStringS k)]
noncomputable abbrev L_laws_szTake : List (Nat × Cut K TyK (Int)) := []
theorem e_laws_szTake (k : Nat) (a0 : DTake) (a1 : Int) : run cod T (G_laws_szTake k) (lam L_laws_szTake k) (cutsOf L_laws_szTake) 0 (finish cod T false 0 [.tmp 4] D_laws_szTake) 4000 false [.code (bodyOf Try.f51)] (envOf [0, 1] [.agg [.lit (.int .i64 a0.Next), .inl true .held a0.Held, .lit (.string a0.Open), .inl true .str a0.Ready], .lit (.int .i64 a1)]) [] = laws_szTake k a0 a1 := by kernel_rfl
theorem ok_laws_szTake (k : Nat) : SummOk Try.prog cod 51 (S_laws_szTake k) := by
  refine summ_of (T := T) Try.f51 (G_laws_szTake) L_laws_szTake false [.tmp 4] 0 D_laws_szTake mixed (fun k => Known.of tok eok codOk ?_) (fun k => QuietOk.of ?_) Try.func51 (by kernel_rfl) (by kernel_rfl) (by kernel_rfl) (by kernel_rfl) (by kernel_rfl) ?_ ?_ [] ?_
  · exact all_cons (ok_laws_szHeldS k) (all_cons (ok_laws_szStringS k) (all_nil))
  · exact all_cons (fun h r => ⟨rfl, rfl⟩) (all_cons (fun h r => ⟨rfl, rfl⟩) (all_nil))
  · intro v os r h
    unfold D_laws_szTake at h
    split at h <;> first | (cases h; rfl) | cases h
  · refine all_nil
  · intro args os r h
    change (S_laws_szTake k).run args os = some r at h
    unfold S_laws_szTake at h; dsimp only at h
    split at h
    · exact ⟨Nat.le_of_ble_eq_true (by kernel_rfl), rfl, rfl, k, 4000, (e_laws_szTake k ⟨_, _, _, _⟩ _).trans h⟩
    · cases h
noncomputable def S_laws_szEnd (k : Nat) : Summ K TyK where
  R := Int
  modes := [.bo, .bo]
  run := fun args objs => match args, objs with
    | [.agg [.lit (.int .i64 v1), .lit (.bool v2), .lit (.int .i64 v3), .lit (.int .i64 v4), .lit (.int .i64 v5), .lit (.bool v6), .lit (.int .i64 v7), .inl true .item v8, .lit (.int .i64 v9), .inl true .held v10, .lit (.string v11), .inl true .str v12], .lit (.int .i64 v13)], [] => laws_szEnd k (⟨v1, v2, v3, v4, v5, v6, (⟨v7, v8⟩ : DSend), (⟨v9, v10, v11, v12⟩ : DTake)⟩ : DEnd) v13
    | _, _ => none
  ret := fun r => (.lit (.int .i64 r), [])
  quiet := true
noncomputable def D_laws_szEnd (v : V) (os : Objs K TyK) : Option (Int) :=
  match v, os with
  | .lit (.int .i64 v1), [] => some v1
  | _, _ => none
noncomputable abbrev G_laws_szEnd (k : Nat) : FuncId → Option (Summ K TyK) := lookT [(50, S_laws_szSend k), (51, S_laws_szTake k)]
noncomputable abbrev L_laws_szEnd : List (Nat × Cut K TyK (Int)) := []
theorem e_laws_szEnd (k : Nat) (a0 : DEnd) (a1 : Int) : run cod T (G_laws_szEnd k) (lam L_laws_szEnd k) (cutsOf L_laws_szEnd) 0 (finish cod T false 0 [.tmp 4] D_laws_szEnd) 4000 false [.code (bodyOf Try.f10)] (envOf [0, 1] [.agg [.lit (.int .i64 a0.Number), .lit (.bool a0.Up), .lit (.int .i64 a0.Life), .lit (.int .i64 a0.Peer), .lit (.int .i64 a0.Since), .lit (.bool a0.Owes), .lit (.int .i64 a0.Send.Base), .inl true .item a0.Send.Items, .lit (.int .i64 a0.Take.Next), .inl true .held a0.Take.Held, .lit (.string a0.Take.Open), .inl true .str a0.Take.Ready], .lit (.int .i64 a1)]) [] = laws_szEnd k a0 a1 := by kernel_rfl
theorem ok_laws_szEnd (k : Nat) : SummOk Try.prog cod 10 (S_laws_szEnd k) := by
  refine summ_of (T := T) Try.f10 (G_laws_szEnd) L_laws_szEnd false [.tmp 4] 0 D_laws_szEnd mixed (fun k => Known.of tok eok codOk ?_) (fun k => QuietOk.of ?_) Try.func10 (by kernel_rfl) (by kernel_rfl) (by kernel_rfl) (by kernel_rfl) (by kernel_rfl) ?_ ?_ [] ?_
  · exact all_cons (ok_laws_szSend k) (all_cons (ok_laws_szTake k) (all_nil))
  · exact all_cons (fun h r => ⟨rfl, rfl⟩) (all_cons (fun h r => ⟨rfl, rfl⟩) (all_nil))
  · intro v os r h
    unfold D_laws_szEnd at h
    split at h <;> first | (cases h; rfl) | cases h
  · refine all_nil
  · intro args os r h
    change (S_laws_szEnd k).run args os = some r at h
    unfold S_laws_szEnd at h; dsimp only at h
    split at h
    · exact ⟨Nat.le_of_ble_eq_true (by kernel_rfl), rfl, rfl, k, 4000, (e_laws_szEnd k ⟨_, _, _, _, _, _, ⟨_, _⟩, ⟨_, _, _, _⟩⟩ _).trans h⟩
    · cases h
noncomputable def S_laws_szPacket (k : Nat) : Summ K TyK where
  R := Int
  modes := [.bo, .bo]
  run := fun args objs => match args, objs with
    | [.agg [.lit (.int .i64 v1), .lit (.int .i64 v2), .lit (.int .i64 v3), .lit (.int .i64 v4), .lit (.int .i64 v5), .lit (.int .i64 v6), .lit (.int .i64 v7), .lit (.bool v8), .lit (.string v9)], .lit (.int .i64 v10)], [] => laws_szPacket k (⟨v1, v2, v3, v4, v5, v6, v7, v8, v9⟩ : DPacket) v10
    | _, _ => none
  ret := fun r => (.lit (.int .i64 r), [])
  quiet := true
noncomputable def D_laws_szPacket (v : V) (os : Objs K TyK) : Option (Int) :=
  match v, os with
  | .lit (.int .i64 v1), [] => some v1
  | _, _ => none
noncomputable abbrev G_laws_szPacket (k : Nat) : FuncId → Option (Summ K TyK) := lookT []
noncomputable abbrev L_laws_szPacket : List (Nat × Cut K TyK (Int)) := []
theorem e_laws_szPacket (k : Nat) (a0 : DPacket) (a1 : Int) : run cod T (G_laws_szPacket k) (lam L_laws_szPacket k) (cutsOf L_laws_szPacket) 0 (finish cod T false 0 [.tmp 4] D_laws_szPacket) 4000 false [.code (bodyOf Try.f11)] (envOf [0, 1] [.agg [.lit (.int .i64 a0.Kind), .lit (.int .i64 a0.From), .lit (.int .i64 a0.Mine), .lit (.int .i64 a0.Yours), .lit (.int .i64 a0.Next), .lit (.int .i64 a0.Mask), .lit (.int .i64 a0.Seq), .lit (.bool a0.Last), .lit (.string a0.Part)], .lit (.int .i64 a1)]) [] = laws_szPacket k a0 a1 := by kernel_rfl
theorem ok_laws_szPacket (k : Nat) : SummOk Try.prog cod 11 (S_laws_szPacket k) := by
  refine summ_of (T := T) Try.f11 (G_laws_szPacket) L_laws_szPacket false [.tmp 4] 0 D_laws_szPacket mixed (fun k => Known.of tok eok codOk ?_) (fun k => QuietOk.of ?_) Try.func11 (by kernel_rfl) (by kernel_rfl) (by kernel_rfl) (by kernel_rfl) (by kernel_rfl) ?_ ?_ [] ?_
  · exact all_nil
  · exact all_nil
  · intro v os r h
    unfold D_laws_szPacket at h
    split at h <;> first | (cases h; rfl) | cases h
  · refine all_nil
  · intro args os r h
    change (S_laws_szPacket k).run args os = some r at h
    unfold S_laws_szPacket at h; dsimp only at h
    split at h
    · exact ⟨Nat.le_of_ble_eq_true (by kernel_rfl), rfl, rfl, k, 4000, (e_laws_szPacket k ⟨_, _, _, _, _, _, _, _, _⟩ _).trans h⟩
    · cases h
noncomputable def S_laws_toPart (k : Nat) : Summ K TyK where
  R := DPart
  modes := [.bo]
  run := fun args objs => match args, objs with
    | [.agg [.lit (.string v1), .lit (.bool v2)]], [] => laws_toPart k (⟨v1, v2⟩ : DPart)
    | _, _ => none
  ret := fun r => (.agg [.lit (.string r.Text), .lit (.bool r.Last)], [])
  quiet := true
noncomputable def D_laws_toPart (v : V) (os : Objs K TyK) : Option (DPart) :=
  match v, os with
  | .agg [.lit (.string v1), .lit (.bool v2)], [] => some (⟨v1, v2⟩ : DPart)
  | _, _ => none
noncomputable abbrev G_laws_toPart (k : Nat) : FuncId → Option (Summ K TyK) := lookT []
noncomputable abbrev L_laws_toPart : List (Nat × Cut K TyK (DPart)) := []
theorem e_laws_toPart (k : Nat) (a0 : DPart) : run cod T (G_laws_toPart k) (lam L_laws_toPart k) (cutsOf L_laws_toPart) 0 (finish cod T false 0 [.cell 2 93] D_laws_toPart) 4000 false [.code (bodyOf Try.f178)] (envOf [0] [.agg [.lit (.string a0.Text), .lit (.bool a0.Last)]]) [] = laws_toPart k a0 := by kernel_rfl
theorem ok_laws_toPart (k : Nat) : SummOk Try.prog cod 178 (S_laws_toPart k) := by
  refine summ_of (T := T) Try.f178 (G_laws_toPart) L_laws_toPart false [.cell 2 93] 0 D_laws_toPart mixed (fun k => Known.of tok eok codOk ?_) (fun k => QuietOk.of ?_) Try.func178 (by kernel_rfl) (by kernel_rfl) (by kernel_rfl) (by kernel_rfl) (by kernel_rfl) ?_ ?_ [] ?_
  · exact all_nil
  · exact all_nil
  · intro v os r h
    unfold D_laws_toPart at h
    split at h <;> first | (cases h; rfl) | cases h
  · refine all_nil
  · intro args os r h
    change (S_laws_toPart k).run args os = some r at h
    unfold S_laws_toPart at h; dsimp only at h
    split at h
    · exact ⟨Nat.le_of_ble_eq_true (by kernel_rfl), rfl, rfl, k, 4000, (e_laws_toPart k ⟨_, _⟩).trans h⟩
    · cases h
noncomputable def S_laws_toItem (k : Nat) : Summ K TyK where
  R := DItem
  modes := [.bo]
  run := fun args objs => match args, objs with
    | [.agg [.lit (.string v1), .lit (.bool v2), .lit (.bool v3), .lit (.int .i64 v4)]], [] => laws_toItem k (⟨(⟨v1, v2⟩ : DPart), v3, v4⟩ : DItem)
    | _, _ => none
  ret := fun r => (.agg [.lit (.string r.Part.Text), .lit (.bool r.Part.Last), .lit (.bool r.Has), .lit (.int .i64 r.Since)], [])
  quiet := true
noncomputable def D_laws_toItem (v : V) (os : Objs K TyK) : Option (DItem) :=
  match v, os with
  | .agg [.lit (.string v1), .lit (.bool v2), .lit (.bool v3), .lit (.int .i64 v4)], [] => some (⟨(⟨v1, v2⟩ : DPart), v3, v4⟩ : DItem)
  | _, _ => none
noncomputable abbrev G_laws_toItem (k : Nat) : FuncId → Option (Summ K TyK) := lookT [(178, S_laws_toPart k)]
noncomputable abbrev L_laws_toItem : List (Nat × Cut K TyK (DItem)) := []
theorem e_laws_toItem (k : Nat) (a0 : DItem) : run cod T (G_laws_toItem k) (lam L_laws_toItem k) (cutsOf L_laws_toItem) 0 (finish cod T false 0 [.cell 2 136] D_laws_toItem) 4000 false [.code (bodyOf Try.f161)] (envOf [0] [.agg [.lit (.string a0.Part.Text), .lit (.bool a0.Part.Last), .lit (.bool a0.Has), .lit (.int .i64 a0.Since)]]) [] = laws_toItem k a0 := by kernel_rfl
theorem ok_laws_toItem (k : Nat) : SummOk Try.prog cod 161 (S_laws_toItem k) := by
  refine summ_of (T := T) Try.f161 (G_laws_toItem) L_laws_toItem false [.cell 2 136] 0 D_laws_toItem mixed (fun k => Known.of tok eok codOk ?_) (fun k => QuietOk.of ?_) Try.func161 (by kernel_rfl) (by kernel_rfl) (by kernel_rfl) (by kernel_rfl) (by kernel_rfl) ?_ ?_ [] ?_
  · exact all_cons (ok_laws_toPart k) (all_nil)
  · exact all_cons (fun h r => ⟨rfl, rfl⟩) (all_nil)
  · intro v os r h
    unfold D_laws_toItem at h
    split at h <;> first | (cases h; rfl) | cases h
  · refine all_nil
  · intro args os r h
    change (S_laws_toItem k).run args os = some r at h
    unfold S_laws_toItem at h; dsimp only at h
    split at h
    · exact ⟨Nat.le_of_ble_eq_true (by kernel_rfl), rfl, rfl, k, 4000, (e_laws_toItem k ⟨⟨_, _⟩, _, _⟩).trans h⟩
    · cases h
noncomputable def S_laws_toItemS (k : Nat) : Summ K TyK where
  R := List DItem
  modes := [.bo]
  run := fun args objs => match args, objs with
    | [.inl true .item v1], [] => laws_toItemS k v1
    | _, _ => none
  ret := fun r => (.own 0, [.sl .item r])
  quiet := false
noncomputable def D_laws_toItemS (v : V) (os : Objs K TyK) : Option (List DItem) :=
  match v, os with
  | .own 0, [.sl .item v1] => some v1
  | _, _ => none
noncomputable def C_laws_toItemS_3 : Cut K TyK (List DItem) where
  slots := [0, 3, 4]
  fn := fun k vs os => match vs, os with
    | [.inl true .item x0, .own 0, .lit (.int .i64 x1)], [.sl .item x2] => laws_toItemS_l3 k x0 x1 x2
    | _, _ => none
noncomputable abbrev G_laws_toItemS (k : Nat) : FuncId → Option (Summ K TyK) := lookT [(161, S_laws_toItem k)]
noncomputable abbrev L_laws_toItemS : List (Nat × Cut K TyK (List DItem)) := [(3, C_laws_toItemS_3)]
theorem c_laws_toItemS_3 (k : Nat) (x0 : List DItem) (x1 : Int) (x2 : List DItem) : run cod T (G_laws_toItemS k) (lam L_laws_toItemS k) (cutsOf L_laws_toItemS) 0 (finish cod T false 0 [.tmp 2] D_laws_toItemS) 4000 true (todoAt 3 (bodyOf Try.f123)) (envOf [0, 3, 4] [.inl true .item x0, .own 0, .lit (.int .i64 x1)]) [.sl .item x2] = laws_toItemS_l3 (k + 1) x0 x1 x2 := by kernel_rfl
theorem e_laws_toItemS (k : Nat) (a0 : List DItem) : run cod T (G_laws_toItemS k) (lam L_laws_toItemS k) (cutsOf L_laws_toItemS) 0 (finish cod T false 0 [.tmp 2] D_laws_toItemS) 4000 false [.code (bodyOf Try.f123)] (envOf [0] [.inl true .item a0]) [] = laws_toItemS k a0 := by kernel_rfl
theorem ok_laws_toItemS (k : Nat) : SummOk Try.prog cod 123 (S_laws_toItemS k) := by
  refine summ_of (T := T) Try.f123 (G_laws_toItemS) L_laws_toItemS false [.tmp 2] 0 D_laws_toItemS mixed (fun k => Known.of tok eok codOk ?_) (fun k => QuietOk.of ?_) Try.func123 (by kernel_rfl) (by kernel_rfl) (by kernel_rfl) (by kernel_rfl) (by kernel_rfl) ?_ ?_ [] ?_
  · exact all_cons (ok_laws_toItem k) (all_nil)
  · exact all_cons (fun h r => ⟨rfl, rfl⟩) (all_nil)
  · intro v os r h
    unfold D_laws_toItemS at h
    split at h <;> first | (cases h; rfl) | cases h
  · refine all_cons ?_ (all_nil)
    · refine ⟨fun vs os => ?_, by kernel_rfl, fun k vs os r h => ?_⟩
      · show C_laws_toItemS_3.fn 0 vs os = none
        unfold C_laws_toItemS_3; dsimp only; split <;> rfl
      · change C_laws_toItemS_3.fn (k + 1) vs os = some r at h
        unfold C_laws_toItemS_3 at h; dsimp only at h
        split at h
        · exact ⟨4000, (c_laws_toItemS_3 k _ _ _).trans h⟩
        · cases h
  · intro args os r h
    change (S_laws_toItemS k).run args os = some r at h
    unfold S_laws_toItemS at h; dsimp only at h
    split at h
    · exact ⟨Nat.le_of_ble_eq_true (by kernel_rfl), rfl, rfl, k, 4000, (e_laws_toItemS k _).trans h⟩
    · cases h
noncomputable def S_laws_toSend (k : Nat) : Summ K TyK where
  R := DSend
  modes := [.bo]
  run := fun args objs => match args, objs with
    | [.agg [.lit (.int .i64 v1), .inl true .item v2]], [] => laws_toSend k (⟨v1, v2⟩ : DSend)
    | _, _ => none
  ret := fun r => (.agg [.lit (.int .i64 r.Base), .own 0], [.sl .item r.Items])
  quiet := false
noncomputable def D_laws_toSend (v : V) (os : Objs K TyK) : Option (DSend) :=
  match v, os with
  | .agg [.lit (.int .i64 v1), .own 0], [.sl .item v2] => some (⟨v1, v2⟩ : DSend)
  | _, _ => none
noncomputable abbrev G_laws_toSend (k : Nat) : FuncId → Option (Summ K TyK) := lookT [(123, S_laws_toItemS k)]
noncomputable abbrev L_laws_toSend : List (Nat × Cut K TyK (DSend)) := []
theorem e_laws_toSend (k : Nat) (a0 : DSend) : run cod T (G_laws_toSend k) (lam L_laws_toSend k) (cutsOf L_laws_toSend) 0 (finish cod T false 0 [.cell 2 37] D_laws_toSend) 4000 false [.code (bodyOf Try.f56)] (envOf [0] [.agg [.lit (.int .i64 a0.Base), .inl true .item a0.Items]]) [] = laws_toSend k a0 := by kernel_rfl
theorem ok_laws_toSend (k : Nat) : SummOk Try.prog cod 56 (S_laws_toSend k) := by
  refine summ_of (T := T) Try.f56 (G_laws_toSend) L_laws_toSend false [.cell 2 37] 0 D_laws_toSend mixed (fun k => Known.of tok eok codOk ?_) (fun k => QuietOk.of ?_) Try.func56 (by kernel_rfl) (by kernel_rfl) (by kernel_rfl) (by kernel_rfl) (by kernel_rfl) ?_ ?_ [] ?_
  · exact all_cons (ok_laws_toItemS k) (all_nil)
  · exact all_cons (fun h r => by cases h) (all_nil)
  · intro v os r h
    unfold D_laws_toSend at h
    split at h <;> first | (cases h; rfl) | cases h
  · refine all_nil
  · intro args os r h
    change (S_laws_toSend k).run args os = some r at h
    unfold S_laws_toSend at h; dsimp only at h
    split at h
    · exact ⟨Nat.le_of_ble_eq_true (by kernel_rfl), rfl, rfl, k, 4000, (e_laws_toSend k ⟨_, _⟩).trans h⟩
    · cases h
noncomputable def S_laws_toHeld (k : Nat) : Summ K TyK where
  R := DHeld
  modes := [.bo]
  run := fun args objs => match args, objs with
    | [.agg [.lit (.int .i64 v1), .lit (.string v2), .lit (.bool v3)]], [] => laws_toHeld k (⟨v1, (⟨v2, v3⟩ : DPart)⟩ : DHeld)
    | _, _ => none
  ret := fun r => (.agg [.lit (.int .i64 r.Seq), .lit (.string r.Part.Text), .lit (.bool r.Part.Last)], [])
  quiet := true
noncomputable def D_laws_toHeld (v : V) (os : Objs K TyK) : Option (DHeld) :=
  match v, os with
  | .agg [.lit (.int .i64 v1), .lit (.string v2), .lit (.bool v3)], [] => some (⟨v1, (⟨v2, v3⟩ : DPart)⟩ : DHeld)
  | _, _ => none
noncomputable abbrev G_laws_toHeld (k : Nat) : FuncId → Option (Summ K TyK) := lookT [(178, S_laws_toPart k)]
noncomputable abbrev L_laws_toHeld : List (Nat × Cut K TyK (DHeld)) := []
theorem e_laws_toHeld (k : Nat) (a0 : DHeld) : run cod T (G_laws_toHeld k) (lam L_laws_toHeld k) (cutsOf L_laws_toHeld) 0 (finish cod T false 0 [.cell 2 155] D_laws_toHeld) 4000 false [.code (bodyOf Try.f162)] (envOf [0] [.agg [.lit (.int .i64 a0.Seq), .lit (.string a0.Part.Text), .lit (.bool a0.Part.Last)]]) [] = laws_toHeld k a0 := by kernel_rfl
theorem ok_laws_toHeld (k : Nat) : SummOk Try.prog cod 162 (S_laws_toHeld k) := by
  refine summ_of (T := T) Try.f162 (G_laws_toHeld) L_laws_toHeld false [.cell 2 155] 0 D_laws_toHeld mixed (fun k => Known.of tok eok codOk ?_) (fun k => QuietOk.of ?_) Try.func162 (by kernel_rfl) (by kernel_rfl) (by kernel_rfl) (by kernel_rfl) (by kernel_rfl) ?_ ?_ [] ?_
  · exact all_cons (ok_laws_toPart k) (all_nil)
  · exact all_cons (fun h r => ⟨rfl, rfl⟩) (all_nil)
  · intro v os r h
    unfold D_laws_toHeld at h
    split at h <;> first | (cases h; rfl) | cases h
  · refine all_nil
  · intro args os r h
    change (S_laws_toHeld k).run args os = some r at h
    unfold S_laws_toHeld at h; dsimp only at h
    split at h
    · exact ⟨Nat.le_of_ble_eq_true (by kernel_rfl), rfl, rfl, k, 4000, (e_laws_toHeld k ⟨_, ⟨_, _⟩⟩).trans h⟩
    · cases h
noncomputable def S_laws_toHeldS (k : Nat) : Summ K TyK where
  R := List DHeld
  modes := [.bo]
  run := fun args objs => match args, objs with
    | [.inl true .held v1], [] => laws_toHeldS k v1
    | _, _ => none
  ret := fun r => (.own 0, [.sl .held r])
  quiet := false
noncomputable def D_laws_toHeldS (v : V) (os : Objs K TyK) : Option (List DHeld) :=
  match v, os with
  | .own 0, [.sl .held v1] => some v1
  | _, _ => none
noncomputable def C_laws_toHeldS_3 : Cut K TyK (List DHeld) where
  slots := [0, 3, 4]
  fn := fun k vs os => match vs, os with
    | [.inl true .held x0, .own 0, .lit (.int .i64 x1)], [.sl .held x2] => laws_toHeldS_l3 k x0 x1 x2
    | _, _ => none
noncomputable abbrev G_laws_toHeldS (k : Nat) : FuncId → Option (Summ K TyK) := lookT [(162, S_laws_toHeld k)]
noncomputable abbrev L_laws_toHeldS : List (Nat × Cut K TyK (List DHeld)) := [(3, C_laws_toHeldS_3)]
theorem c_laws_toHeldS_3 (k : Nat) (x0 : List DHeld) (x1 : Int) (x2 : List DHeld) : run cod T (G_laws_toHeldS k) (lam L_laws_toHeldS k) (cutsOf L_laws_toHeldS) 0 (finish cod T false 0 [.tmp 2] D_laws_toHeldS) 4000 true (todoAt 3 (bodyOf Try.f124)) (envOf [0, 3, 4] [.inl true .held x0, .own 0, .lit (.int .i64 x1)]) [.sl .held x2] = laws_toHeldS_l3 (k + 1) x0 x1 x2 := by kernel_rfl
theorem e_laws_toHeldS (k : Nat) (a0 : List DHeld) : run cod T (G_laws_toHeldS k) (lam L_laws_toHeldS k) (cutsOf L_laws_toHeldS) 0 (finish cod T false 0 [.tmp 2] D_laws_toHeldS) 4000 false [.code (bodyOf Try.f124)] (envOf [0] [.inl true .held a0]) [] = laws_toHeldS k a0 := by kernel_rfl
theorem ok_laws_toHeldS (k : Nat) : SummOk Try.prog cod 124 (S_laws_toHeldS k) := by
  refine summ_of (T := T) Try.f124 (G_laws_toHeldS) L_laws_toHeldS false [.tmp 2] 0 D_laws_toHeldS mixed (fun k => Known.of tok eok codOk ?_) (fun k => QuietOk.of ?_) Try.func124 (by kernel_rfl) (by kernel_rfl) (by kernel_rfl) (by kernel_rfl) (by kernel_rfl) ?_ ?_ [] ?_
  · exact all_cons (ok_laws_toHeld k) (all_nil)
  · exact all_cons (fun h r => ⟨rfl, rfl⟩) (all_nil)
  · intro v os r h
    unfold D_laws_toHeldS at h
    split at h <;> first | (cases h; rfl) | cases h
  · refine all_cons ?_ (all_nil)
    · refine ⟨fun vs os => ?_, by kernel_rfl, fun k vs os r h => ?_⟩
      · show C_laws_toHeldS_3.fn 0 vs os = none
        unfold C_laws_toHeldS_3; dsimp only; split <;> rfl
      · change C_laws_toHeldS_3.fn (k + 1) vs os = some r at h
        unfold C_laws_toHeldS_3 at h; dsimp only at h
        split at h
        · exact ⟨4000, (c_laws_toHeldS_3 k _ _ _).trans h⟩
        · cases h
  · intro args os r h
    change (S_laws_toHeldS k).run args os = some r at h
    unfold S_laws_toHeldS at h; dsimp only at h
    split at h
    · exact ⟨Nat.le_of_ble_eq_true (by kernel_rfl), rfl, rfl, k, 4000, (e_laws_toHeldS k _).trans h⟩
    · cases h
noncomputable def S_laws_toStringS (k : Nat) : Summ K TyK where
  R := List ByteArray
  modes := [.bo]
  run := fun args objs => match args, objs with
    | [.inl true .str v1], [] => laws_toStringS k v1
    | _, _ => none
  ret := fun r => (.own 0, [.sl .str r])
  quiet := false
noncomputable def D_laws_toStringS (v : V) (os : Objs K TyK) : Option (List ByteArray) :=
  match v, os with
  | .own 0, [.sl .str v1] => some v1
  | _, _ => none
noncomputable def C_laws_toStringS_3 : Cut K TyK (List ByteArray) where
  slots := [0, 3, 4]
  fn := fun k vs os => match vs, os with
    | [.inl true .str x0, .own 0, .lit (.int .i64 x1)], [.sl .str x2] => laws_toStringS_l3 k x0 x1 x2
    | _, _ => none
noncomputable abbrev G_laws_toStringS (k : Nat) : FuncId → Option (Summ K TyK) := lookT []
noncomputable abbrev L_laws_toStringS : List (Nat × Cut K TyK (List ByteArray)) := [(3, C_laws_toStringS_3)]
theorem c_laws_toStringS_3 (k : Nat) (x0 : List ByteArray) (x1 : Int) (x2 : List ByteArray) : run cod T (G_laws_toStringS k) (lam L_laws_toStringS k) (cutsOf L_laws_toStringS) 0 (finish cod T false 0 [.tmp 2] D_laws_toStringS) 4000 true (todoAt 3 (bodyOf Try.f125)) (envOf [0, 3, 4] [.inl true .str x0, .own 0, .lit (.int .i64 x1)]) [.sl .str x2] = laws_toStringS_l3 (k + 1) x0 x1 x2 := by kernel_rfl
theorem e_laws_toStringS (k : Nat) (a0 : List ByteArray) : run cod T (G_laws_toStringS k) (lam L_laws_toStringS k) (cutsOf L_laws_toStringS) 0 (finish cod T false 0 [.tmp 2] D_laws_toStringS) 4000 false [.code (bodyOf Try.f125)] (envOf [0] [.inl true .str a0]) [] = laws_toStringS k a0 := by kernel_rfl
theorem ok_laws_toStringS (k : Nat) : SummOk Try.prog cod 125 (S_laws_toStringS k) := by
  refine summ_of (T := T) Try.f125 (G_laws_toStringS) L_laws_toStringS false [.tmp 2] 0 D_laws_toStringS mixed (fun k => Known.of tok eok codOk ?_) (fun k => QuietOk.of ?_) Try.func125 (by kernel_rfl) (by kernel_rfl) (by kernel_rfl) (by kernel_rfl) (by kernel_rfl) ?_ ?_ [] ?_
  · exact all_nil
  · exact all_nil
  · intro v os r h
    unfold D_laws_toStringS at h
    split at h <;> first | (cases h; rfl) | cases h
  · refine all_cons ?_ (all_nil)
    · refine ⟨fun vs os => ?_, by kernel_rfl, fun k vs os r h => ?_⟩
      · show C_laws_toStringS_3.fn 0 vs os = none
        unfold C_laws_toStringS_3; dsimp only; split <;> rfl
      · change C_laws_toStringS_3.fn (k + 1) vs os = some r at h
        unfold C_laws_toStringS_3 at h; dsimp only at h
        split at h
        · exact ⟨4000, (c_laws_toStringS_3 k _ _ _).trans h⟩
        · cases h
  · intro args os r h
    change (S_laws_toStringS k).run args os = some r at h
    unfold S_laws_toStringS at h; dsimp only at h
    split at h
    · exact ⟨Nat.le_of_ble_eq_true (by kernel_rfl), rfl, rfl, k, 4000, (e_laws_toStringS k _).trans h⟩
    · cases h
noncomputable def S_laws_toTake (k : Nat) : Summ K TyK where
  R := DTake
  modes := [.bo]
  run := fun args objs => match args, objs with
    | [.agg [.lit (.int .i64 v1), .inl true .held v2, .lit (.string v3), .inl true .str v4]], [] => laws_toTake k (⟨v1, v2, v3, v4⟩ : DTake)
    | _, _ => none
  ret := fun r => (.agg [.lit (.int .i64 r.Next), .own 0, .lit (.string r.Open), .own 1], [.sl .held r.Held, .sl .str r.Ready])
  quiet := false
noncomputable def D_laws_toTake (v : V) (os : Objs K TyK) : Option (DTake) :=
  match v, os with
  | .agg [.lit (.int .i64 v1), .own 0, .lit (.string v2), .own 1], [.sl .held v3, .sl .str v4] => some (⟨v1, v3, v2, v4⟩ : DTake)
  | _, _ => none
noncomputable abbrev G_laws_toTake (k : Nat) : FuncId → Option (Summ K TyK) := lookT [(124, S_laws_toHeldS k), (125, S_laws_toStringS k)]
noncomputable abbrev L_laws_toTake : List (Nat × Cut K TyK (DTake)) := []
theorem e_laws_toTake (k : Nat) (a0 : DTake) : run cod T (G_laws_toTake k) (lam L_laws_toTake k) (cutsOf L_laws_toTake) 0 (finish cod T false 0 [.cell 2 40] D_laws_toTake) 4000 false [.code (bodyOf Try.f57)] (envOf [0] [.agg [.lit (.int .i64 a0.Next), .inl true .held a0.Held, .lit (.string a0.Open), .inl true .str a0.Ready]]) [] = laws_toTake k a0 := by kernel_rfl
theorem ok_laws_toTake (k : Nat) : SummOk Try.prog cod 57 (S_laws_toTake k) := by
  refine summ_of (T := T) Try.f57 (G_laws_toTake) L_laws_toTake false [.cell 2 40] 0 D_laws_toTake mixed (fun k => Known.of tok eok codOk ?_) (fun k => QuietOk.of ?_) Try.func57 (by kernel_rfl) (by kernel_rfl) (by kernel_rfl) (by kernel_rfl) (by kernel_rfl) ?_ ?_ [] ?_
  · exact all_cons (ok_laws_toHeldS k) (all_cons (ok_laws_toStringS k) (all_nil))
  · exact all_cons (fun h r => by cases h) (all_cons (fun h r => by cases h) (all_nil))
  · intro v os r h
    unfold D_laws_toTake at h
    split at h <;> first | (cases h; rfl) | cases h
  · refine all_nil
  · intro args os r h
    change (S_laws_toTake k).run args os = some r at h
    unfold S_laws_toTake at h; dsimp only at h
    split at h
    · exact ⟨Nat.le_of_ble_eq_true (by kernel_rfl), rfl, rfl, k, 4000, (e_laws_toTake k ⟨_, _, _, _⟩).trans h⟩
    · cases h
noncomputable def S_laws_toEnd (k : Nat) : Summ K TyK where
  R := DEnd
  modes := [.bo]
  run := fun args objs => match args, objs with
    | [.agg [.lit (.int .i64 v1), .lit (.bool v2), .lit (.int .i64 v3), .lit (.int .i64 v4), .lit (.int .i64 v5), .lit (.bool v6), .lit (.int .i64 v7), .inl true .item v8, .lit (.int .i64 v9), .inl true .held v10, .lit (.string v11), .inl true .str v12]], [] => laws_toEnd k (⟨v1, v2, v3, v4, v5, v6, (⟨v7, v8⟩ : DSend), (⟨v9, v10, v11, v12⟩ : DTake)⟩ : DEnd)
    | _, _ => none
  ret := fun r => (.agg [.lit (.int .i64 r.Number), .lit (.bool r.Up), .lit (.int .i64 r.Life), .lit (.int .i64 r.Peer), .lit (.int .i64 r.Since), .lit (.bool r.Owes), .lit (.int .i64 r.Send.Base), .own 0, .lit (.int .i64 r.Take.Next), .own 1, .lit (.string r.Take.Open), .own 2], [.sl .item r.Send.Items, .sl .held r.Take.Held, .sl .str r.Take.Ready])
  quiet := false
noncomputable def D_laws_toEnd (v : V) (os : Objs K TyK) : Option (DEnd) :=
  match v, os with
  | .agg [.lit (.int .i64 v1), .lit (.bool v2), .lit (.int .i64 v3), .lit (.int .i64 v4), .lit (.int .i64 v5), .lit (.bool v6), .lit (.int .i64 v7), .own 0, .lit (.int .i64 v8), .own 1, .lit (.string v9), .own 2], [.sl .item v10, .sl .held v11, .sl .str v12] => some (⟨v1, v2, v3, v4, v5, v6, (⟨v7, v10⟩ : DSend), (⟨v8, v11, v9, v12⟩ : DTake)⟩ : DEnd)
  | _, _ => none
noncomputable abbrev G_laws_toEnd (k : Nat) : FuncId → Option (Summ K TyK) := lookT [(56, S_laws_toSend k), (57, S_laws_toTake k)]
noncomputable abbrev L_laws_toEnd : List (Nat × Cut K TyK (DEnd)) := []
theorem e_laws_toEnd (k : Nat) (a0 : DEnd) : run cod T (G_laws_toEnd k) (lam L_laws_toEnd k) (cutsOf L_laws_toEnd) 0 (finish cod T false 0 [.cell 2 42] D_laws_toEnd) 4000 false [.code (bodyOf Try.f13)] (envOf [0] [.agg [.lit (.int .i64 a0.Number), .lit (.bool a0.Up), .lit (.int .i64 a0.Life), .lit (.int .i64 a0.Peer), .lit (.int .i64 a0.Since), .lit (.bool a0.Owes), .lit (.int .i64 a0.Send.Base), .inl true .item a0.Send.Items, .lit (.int .i64 a0.Take.Next), .inl true .held a0.Take.Held, .lit (.string a0.Take.Open), .inl true .str a0.Take.Ready]]) [] = laws_toEnd k a0 := by kernel_rfl
theorem ok_laws_toEnd (k : Nat) : SummOk Try.prog cod 13 (S_laws_toEnd k) := by
  refine summ_of (T := T) Try.f13 (G_laws_toEnd) L_laws_toEnd false [.cell 2 42] 0 D_laws_toEnd mixed (fun k => Known.of tok eok codOk ?_) (fun k => QuietOk.of ?_) Try.func13 (by kernel_rfl) (by kernel_rfl) (by kernel_rfl) (by kernel_rfl) (by kernel_rfl) ?_ ?_ [] ?_
  · exact all_cons (ok_laws_toSend k) (all_cons (ok_laws_toTake k) (all_nil))
  · exact all_cons (fun h r => by cases h) (all_cons (fun h r => by cases h) (all_nil))
  · intro v os r h
    unfold D_laws_toEnd at h
    split at h <;> first | (cases h; rfl) | cases h
  · refine all_nil
  · intro args os r h
    change (S_laws_toEnd k).run args os = some r at h
    unfold S_laws_toEnd at h; dsimp only at h
    split at h
    · exact ⟨Nat.le_of_ble_eq_true (by kernel_rfl), rfl, rfl, k, 4000, (e_laws_toEnd k ⟨_, _, _, _, _, _, ⟨_, _⟩, ⟨_, _, _, _⟩⟩).trans h⟩
    · cases h
noncomputable def S_laws_toPacket (k : Nat) : Summ K TyK where
  R := DPacket
  modes := [.bo]
  run := fun args objs => match args, objs with
    | [.agg [.lit (.int .i64 v1), .lit (.int .i64 v2), .lit (.int .i64 v3), .lit (.int .i64 v4), .lit (.int .i64 v5), .lit (.int .i64 v6), .lit (.int .i64 v7), .lit (.bool v8), .lit (.string v9)]], [] => laws_toPacket k (⟨v1, v2, v3, v4, v5, v6, v7, v8, v9⟩ : DPacket)
    | _, _ => none
  ret := fun r => (.agg [.lit (.int .i64 r.Kind), .lit (.int .i64 r.From), .lit (.int .i64 r.Mine), .lit (.int .i64 r.Yours), .lit (.int .i64 r.Next), .lit (.int .i64 r.Mask), .lit (.int .i64 r.Seq), .lit (.bool r.Last), .lit (.string r.Part)], [])
  quiet := true
noncomputable def D_laws_toPacket (v : V) (os : Objs K TyK) : Option (DPacket) :=
  match v, os with
  | .agg [.lit (.int .i64 v1), .lit (.int .i64 v2), .lit (.int .i64 v3), .lit (.int .i64 v4), .lit (.int .i64 v5), .lit (.int .i64 v6), .lit (.int .i64 v7), .lit (.bool v8), .lit (.string v9)], [] => some (⟨v1, v2, v3, v4, v5, v6, v7, v8, v9⟩ : DPacket)
  | _, _ => none
noncomputable abbrev G_laws_toPacket (k : Nat) : FuncId → Option (Summ K TyK) := lookT []
noncomputable abbrev L_laws_toPacket : List (Nat × Cut K TyK (DPacket)) := []
theorem e_laws_toPacket (k : Nat) (a0 : DPacket) : run cod T (G_laws_toPacket k) (lam L_laws_toPacket k) (cutsOf L_laws_toPacket) 0 (finish cod T false 0 [.cell 2 48] D_laws_toPacket) 4000 false [.code (bodyOf Try.f14)] (envOf [0] [.agg [.lit (.int .i64 a0.Kind), .lit (.int .i64 a0.From), .lit (.int .i64 a0.Mine), .lit (.int .i64 a0.Yours), .lit (.int .i64 a0.Next), .lit (.int .i64 a0.Mask), .lit (.int .i64 a0.Seq), .lit (.bool a0.Last), .lit (.string a0.Part)]]) [] = laws_toPacket k a0 := by kernel_rfl
theorem ok_laws_toPacket (k : Nat) : SummOk Try.prog cod 14 (S_laws_toPacket k) := by
  refine summ_of (T := T) Try.f14 (G_laws_toPacket) L_laws_toPacket false [.cell 2 48] 0 D_laws_toPacket mixed (fun k => Known.of tok eok codOk ?_) (fun k => QuietOk.of ?_) Try.func14 (by kernel_rfl) (by kernel_rfl) (by kernel_rfl) (by kernel_rfl) (by kernel_rfl) ?_ ?_ [] ?_
  · exact all_nil
  · exact all_nil
  · intro v os r h
    unfold D_laws_toPacket at h
    split at h <;> first | (cases h; rfl) | cases h
  · refine all_nil
  · intro args os r h
    change (S_laws_toPacket k).run args os = some r at h
    unfold S_laws_toPacket at h; dsimp only at h
    split at h
    · exact ⟨Nat.le_of_ble_eq_true (by kernel_rfl), rfl, rfl, k, 4000, (e_laws_toPacket k ⟨_, _, _, _, _, _, _, _, _⟩).trans h⟩
    · cases h
noncomputable def S_spec_l1In (k : Nat) : Summ K TyK where
  R := Bool
  modes := [.bo, .bo, .bo]
  run := fun args objs => match args, objs with
    | [.lit (.int .i64 v1), .lit (.int .i64 v2), .lit (.int .i64 v3)], [] => spec_l1In k v1 v2 v3
    | _, _ => none
  ret := fun r => (.lit (.bool r), [])
  quiet := true
noncomputable def D_spec_l1In (v : V) (os : Objs K TyK) : Option (Bool) :=
  match v, os with
  | .lit (.bool v1), [] => some v1
  | _, _ => none
noncomputable abbrev G_spec_l1In (k : Nat) : FuncId → Option (Summ K TyK) := lookT []
noncomputable abbrev L_spec_l1In : List (Nat × Cut K TyK (Bool)) := []
theorem e_spec_l1In (k : Nat) (a0 : Int) (a1 : Int) (a2 : Int) : run cod T (G_spec_l1In k) (lam L_spec_l1In k) (cutsOf L_spec_l1In) 0 (finish cod T false 0 [.tmp 6] D_spec_l1In) 4000 false [.code (bodyOf Try.f89)] (envOf [0, 1, 2] [.lit (.int .i64 a0), .lit (.int .i64 a1), .lit (.int .i64 a2)]) [] = spec_l1In k a0 a1 a2 := by kernel_rfl
theorem ok_spec_l1In (k : Nat) : SummOk Try.prog cod 89 (S_spec_l1In k) := by
  refine summ_of (T := T) Try.f89 (G_spec_l1In) L_spec_l1In false [.tmp 6] 0 D_spec_l1In mixed (fun k => Known.of tok eok codOk ?_) (fun k => QuietOk.of ?_) Try.func89 (by kernel_rfl) (by kernel_rfl) (by kernel_rfl) (by kernel_rfl) (by kernel_rfl) ?_ ?_ [] ?_
  · exact all_nil
  · exact all_nil
  · intro v os r h
    unfold D_spec_l1In at h
    split at h <;> first | (cases h; rfl) | cases h
  · refine all_nil
  · intro args os r h
    change (S_spec_l1In k).run args os = some r at h
    unfold S_spec_l1In at h; dsimp only at h
    split at h
    · exact ⟨Nat.le_of_ble_eq_true (by kernel_rfl), rfl, rfl, k, 4000, (e_spec_l1In k _ _ _).trans h⟩
    · cases h
noncomputable def S_spec_ValidSend (k : Nat) : Summ K TyK where
  R := Bool
  modes := [.bo]
  run := fun args objs => match args, objs with
    | [.agg [.lit (.int .i64 v1), .inl true .item v2]], [] => spec_ValidSend k (⟨v1, v2⟩ : DSend)
    | _, _ => none
  ret := fun r => (.lit (.bool r), [])
  quiet := true
noncomputable def D_spec_ValidSend (v : V) (os : Objs K TyK) : Option (Bool) :=
  match v, os with
  | .lit (.bool v1), [] => some v1
  | _, _ => none
noncomputable def C_spec_ValidSend_4 : Cut K TyK (Bool) where
  slots := [1, 3]
  fn := fun k vs os => match vs, os with
    | [.ref 0 0, .lit (.int .i64 x0)], [.box [.lit (.int .i64 x1), .inl true .item x2]] => spec_ValidSend_l4 k x0 x1 x2
    | _, _ => none
noncomputable abbrev G_spec_ValidSend (k : Nat) : FuncId → Option (Summ K TyK) := lookT [(89, S_spec_l1In k)]
noncomputable abbrev L_spec_ValidSend : List (Nat × Cut K TyK (Bool)) := [(4, C_spec_ValidSend_4)]
theorem c_spec_ValidSend_4 (k : Nat) (x0 : Int) (x1 : Int) (x2 : List DItem) : run cod T (G_spec_ValidSend k) (lam L_spec_ValidSend k) (cutsOf L_spec_ValidSend) 0 (finish cod T false 0 [.tmp 2] D_spec_ValidSend) 4000 true (todoAt 4 (bodyOf Try.f105)) (envOf [1, 3] [.ref 0 0, .lit (.int .i64 x0)]) [.box [.lit (.int .i64 x1), .inl true .item x2]] = spec_ValidSend_l4 (k + 1) x0 x1 x2 := by kernel_rfl
theorem e_spec_ValidSend (k : Nat) (a0 : DSend) : run cod T (G_spec_ValidSend k) (lam L_spec_ValidSend k) (cutsOf L_spec_ValidSend) 0 (finish cod T false 0 [.tmp 2] D_spec_ValidSend) 4000 false [.code (bodyOf Try.f105)] (envOf [0] [.agg [.lit (.int .i64 a0.Base), .inl true .item a0.Items]]) [] = spec_ValidSend k a0 := by kernel_rfl
theorem ok_spec_ValidSend (k : Nat) : SummOk Try.prog cod 105 (S_spec_ValidSend k) := by
  refine summ_of (T := T) Try.f105 (G_spec_ValidSend) L_spec_ValidSend false [.tmp 2] 0 D_spec_ValidSend mixed (fun k => Known.of tok eok codOk ?_) (fun k => QuietOk.of ?_) Try.func105 (by kernel_rfl) (by kernel_rfl) (by kernel_rfl) (by kernel_rfl) (by kernel_rfl) ?_ ?_ [] ?_
  · exact all_cons (ok_spec_l1In k) (all_nil)
  · exact all_cons (fun h r => ⟨rfl, rfl⟩) (all_nil)
  · intro v os r h
    unfold D_spec_ValidSend at h
    split at h <;> first | (cases h; rfl) | cases h
  · refine all_cons ?_ (all_nil)
    · refine ⟨fun vs os => ?_, by kernel_rfl, fun k vs os r h => ?_⟩
      · show C_spec_ValidSend_4.fn 0 vs os = none
        unfold C_spec_ValidSend_4; dsimp only; split <;> rfl
      · change C_spec_ValidSend_4.fn (k + 1) vs os = some r at h
        unfold C_spec_ValidSend_4 at h; dsimp only at h
        split at h
        · exact ⟨4000, (c_spec_ValidSend_4 k _ _ _).trans h⟩
        · cases h
  · intro args os r h
    change (S_spec_ValidSend k).run args os = some r at h
    unfold S_spec_ValidSend at h; dsimp only at h
    split at h
    · exact ⟨Nat.le_of_ble_eq_true (by kernel_rfl), rfl, rfl, k, 4000, (e_spec_ValidSend k ⟨_, _⟩).trans h⟩
    · cases h
noncomputable def S_spec_l5Near (k : Nat) : Summ K TyK where
  R := Bool
  modes := [.bo, .bo]
  run := fun args objs => match args, objs with
    | [.agg [.lit (.int .i64 v1), .inl true .held v2, .lit (.string v3), .inl true .str v4], .lit (.int .i64 v5)], [] => spec_l5Near k (⟨v1, v2, v3, v4⟩ : DTake) v5
    | _, _ => none
  ret := fun r => (.lit (.bool r), [])
  quiet := true
noncomputable def D_spec_l5Near (v : V) (os : Objs K TyK) : Option (Bool) :=
  match v, os with
  | .lit (.bool v1), [] => some v1
  | _, _ => none
noncomputable abbrev G_spec_l5Near (k : Nat) : FuncId → Option (Summ K TyK) := lookT [(89, S_spec_l1In k)]
noncomputable abbrev L_spec_l5Near : List (Nat × Cut K TyK (Bool)) := []
theorem e_spec_l5Near (k : Nat) (a0 : DTake) (a1 : Int) : run cod T (G_spec_l5Near k) (lam L_spec_l5Near k) (cutsOf L_spec_l5Near) 0 (finish cod T false 0 [.tmp 4] D_spec_l5Near) 4000 false [.code (bodyOf Try.f121)] (envOf [0, 1] [.agg [.lit (.int .i64 a0.Next), .inl true .held a0.Held, .lit (.string a0.Open), .inl true .str a0.Ready], .lit (.int .i64 a1)]) [] = spec_l5Near k a0 a1 := by kernel_rfl
theorem ok_spec_l5Near (k : Nat) : SummOk Try.prog cod 121 (S_spec_l5Near k) := by
  refine summ_of (T := T) Try.f121 (G_spec_l5Near) L_spec_l5Near false [.tmp 4] 0 D_spec_l5Near mixed (fun k => Known.of tok eok codOk ?_) (fun k => QuietOk.of ?_) Try.func121 (by kernel_rfl) (by kernel_rfl) (by kernel_rfl) (by kernel_rfl) (by kernel_rfl) ?_ ?_ [] ?_
  · exact all_cons (ok_spec_l1In k) (all_nil)
  · exact all_cons (fun h r => ⟨rfl, rfl⟩) (all_nil)
  · intro v os r h
    unfold D_spec_l5Near at h
    split at h <;> first | (cases h; rfl) | cases h
  · refine all_nil
  · intro args os r h
    change (S_spec_l5Near k).run args os = some r at h
    unfold S_spec_l5Near at h; dsimp only at h
    split at h
    · exact ⟨Nat.le_of_ble_eq_true (by kernel_rfl), rfl, rfl, k, 4000, (e_spec_l5Near k ⟨_, _, _, _⟩ _).trans h⟩
    · cases h
noncomputable def S_spec_l5Can (k : Nat) : Summ K TyK where
  R := Bool
  modes := [.bo, .bo]
  run := fun args objs => match args, objs with
    | [.agg [.lit (.int .i64 v1), .inl true .held v2, .lit (.string v3), .inl true .str v4], .agg [.lit (.string v5), .lit (.bool v6)]], [] => spec_l5Can k (⟨v1, v2, v3, v4⟩ : DTake) (⟨v5, v6⟩ : DPart)
    | _, _ => none
  ret := fun r => (.lit (.bool r), [])
  quiet := true
noncomputable def D_spec_l5Can (v : V) (os : Objs K TyK) : Option (Bool) :=
  match v, os with
  | .lit (.bool v1), [] => some v1
  | _, _ => none
noncomputable abbrev G_spec_l5Can (k : Nat) : FuncId → Option (Summ K TyK) := lookT []
noncomputable abbrev L_spec_l5Can : List (Nat × Cut K TyK (Bool)) := []
theorem e_spec_l5Can (k : Nat) (a0 : DTake) (a1 : DPart) : run cod T (G_spec_l5Can k) (lam L_spec_l5Can k) (cutsOf L_spec_l5Can) 0 (finish cod T false 0 [.tmp 4] D_spec_l5Can) 4000 false [.code (bodyOf Try.f157)] (envOf [0, 1] [.agg [.lit (.int .i64 a0.Next), .inl true .held a0.Held, .lit (.string a0.Open), .inl true .str a0.Ready], .agg [.lit (.string a1.Text), .lit (.bool a1.Last)]]) [] = spec_l5Can k a0 a1 := by kernel_rfl
theorem ok_spec_l5Can (k : Nat) : SummOk Try.prog cod 157 (S_spec_l5Can k) := by
  refine summ_of (T := T) Try.f157 (G_spec_l5Can) L_spec_l5Can false [.tmp 4] 0 D_spec_l5Can mixed (fun k => Known.of tok eok codOk ?_) (fun k => QuietOk.of ?_) Try.func157 (by kernel_rfl) (by kernel_rfl) (by kernel_rfl) (by kernel_rfl) (by kernel_rfl) ?_ ?_ [] ?_
  · exact all_nil
  · exact all_nil
  · intro v os r h
    unfold D_spec_l5Can at h
    split at h <;> first | (cases h; rfl) | cases h
  · refine all_nil
  · intro args os r h
    change (S_spec_l5Can k).run args os = some r at h
    unfold S_spec_l5Can at h; dsimp only at h
    split at h
    · exact ⟨Nat.le_of_ble_eq_true (by kernel_rfl), rfl, rfl, k, 4000, (e_spec_l5Can k ⟨_, _, _, _⟩ ⟨_, _⟩).trans h⟩
    · cases h
noncomputable def S_spec_ValidTake (k : Nat) : Summ K TyK where
  R := Bool
  modes := [.bo]
  run := fun args objs => match args, objs with
    | [.agg [.lit (.int .i64 v1), .inl true .held v2, .lit (.string v3), .inl true .str v4]], [] => spec_ValidTake k (⟨v1, v2, v3, v4⟩ : DTake)
    | _, _ => none
  ret := fun r => (.lit (.bool r), [])
  quiet := true
noncomputable def D_spec_ValidTake (v : V) (os : Objs K TyK) : Option (Bool) :=
  match v, os with
  | .lit (.bool v1), [] => some v1
  | _, _ => none
noncomputable def C_spec_ValidTake_4 : Cut K TyK (Bool) where
  slots := [1, 3]
  fn := fun k vs os => match vs, os with
    | [.ref 0 0, .lit (.int .i64 x0)], [.box [.lit (.int .i64 x1), .inl true .held x2, .lit (.string x3), .inl true .str x4]] => spec_ValidTake_l4 k x0 x1 x2 x3 x4
    | _, _ => none
noncomputable def C_spec_ValidTake_9 : Cut K TyK (Bool) where
  slots := [1, 4]
  fn := fun k vs os => match vs, os with
    | [.ref 0 0, .lit (.int .i64 x0)], [.box [.lit (.int .i64 x1), .inl true .held x2, .lit (.string x3), .inl true .str x4]] => spec_ValidTake_l9 k x0 x1 x2 x3 x4
    | _, _ => none
noncomputable abbrev G_spec_ValidTake (k : Nat) : FuncId → Option (Summ K TyK) := lookT [(89, S_spec_l1In k), (121, S_spec_l5Near k), (157, S_spec_l5Can k)]
noncomputable abbrev L_spec_ValidTake : List (Nat × Cut K TyK (Bool)) := [(4, C_spec_ValidTake_4), (9, C_spec_ValidTake_9)]
theorem c_spec_ValidTake_4 (k : Nat) (x0 : Int) (x1 : Int) (x2 : List DHeld) (x3 : ByteArray) (x4 : List ByteArray) : run cod T (G_spec_ValidTake k) (lam L_spec_ValidTake k) (cutsOf L_spec_ValidTake) 0 (finish cod T false 0 [.tmp 2] D_spec_ValidTake) 4000 true (todoAt 4 (bodyOf Try.f106)) (envOf [1, 3] [.ref 0 0, .lit (.int .i64 x0)]) [.box [.lit (.int .i64 x1), .inl true .held x2, .lit (.string x3), .inl true .str x4]] = spec_ValidTake_l4 (k + 1) x0 x1 x2 x3 x4 := by kernel_rfl
theorem c_spec_ValidTake_9 (k : Nat) (x0 : Int) (x1 : Int) (x2 : List DHeld) (x3 : ByteArray) (x4 : List ByteArray) : run cod T (G_spec_ValidTake k) (lam L_spec_ValidTake k) (cutsOf L_spec_ValidTake) 0 (finish cod T false 0 [.tmp 2] D_spec_ValidTake) 4000 true (todoAt 9 (bodyOf Try.f106)) (envOf [1, 4] [.ref 0 0, .lit (.int .i64 x0)]) [.box [.lit (.int .i64 x1), .inl true .held x2, .lit (.string x3), .inl true .str x4]] = spec_ValidTake_l9 (k + 1) x0 x1 x2 x3 x4 := by kernel_rfl
theorem e_spec_ValidTake (k : Nat) (a0 : DTake) : run cod T (G_spec_ValidTake k) (lam L_spec_ValidTake k) (cutsOf L_spec_ValidTake) 0 (finish cod T false 0 [.tmp 2] D_spec_ValidTake) 4000 false [.code (bodyOf Try.f106)] (envOf [0] [.agg [.lit (.int .i64 a0.Next), .inl true .held a0.Held, .lit (.string a0.Open), .inl true .str a0.Ready]]) [] = spec_ValidTake k a0 := by kernel_rfl
theorem ok_spec_ValidTake (k : Nat) : SummOk Try.prog cod 106 (S_spec_ValidTake k) := by
  refine summ_of (T := T) Try.f106 (G_spec_ValidTake) L_spec_ValidTake false [.tmp 2] 0 D_spec_ValidTake mixed (fun k => Known.of tok eok codOk ?_) (fun k => QuietOk.of ?_) Try.func106 (by kernel_rfl) (by kernel_rfl) (by kernel_rfl) (by kernel_rfl) (by kernel_rfl) ?_ ?_ [] ?_
  · exact all_cons (ok_spec_l1In k) (all_cons (ok_spec_l5Near k) (all_cons (ok_spec_l5Can k) (all_nil)))
  · exact all_cons (fun h r => ⟨rfl, rfl⟩) (all_cons (fun h r => ⟨rfl, rfl⟩) (all_cons (fun h r => ⟨rfl, rfl⟩) (all_nil)))
  · intro v os r h
    unfold D_spec_ValidTake at h
    split at h <;> first | (cases h; rfl) | cases h
  · refine all_cons ?_ (all_cons ?_ (all_nil))
    · refine ⟨fun vs os => ?_, by kernel_rfl, fun k vs os r h => ?_⟩
      · show C_spec_ValidTake_4.fn 0 vs os = none
        unfold C_spec_ValidTake_4; dsimp only; split <;> rfl
      · change C_spec_ValidTake_4.fn (k + 1) vs os = some r at h
        unfold C_spec_ValidTake_4 at h; dsimp only at h
        split at h
        · exact ⟨4000, (c_spec_ValidTake_4 k _ _ _ _ _).trans h⟩
        · cases h
    · refine ⟨fun vs os => ?_, by kernel_rfl, fun k vs os r h => ?_⟩
      · show C_spec_ValidTake_9.fn 0 vs os = none
        unfold C_spec_ValidTake_9; dsimp only; split <;> rfl
      · change C_spec_ValidTake_9.fn (k + 1) vs os = some r at h
        unfold C_spec_ValidTake_9 at h; dsimp only at h
        split at h
        · exact ⟨4000, (c_spec_ValidTake_9 k _ _ _ _ _).trans h⟩
        · cases h
  · intro args os r h
    change (S_spec_ValidTake k).run args os = some r at h
    unfold S_spec_ValidTake at h; dsimp only at h
    split at h
    · exact ⟨Nat.le_of_ble_eq_true (by kernel_rfl), rfl, rfl, k, 4000, (e_spec_ValidTake k ⟨_, _, _, _⟩).trans h⟩
    · cases h
noncomputable def S_spec_l6NoSend (k : Nat) : Summ K TyK where
  R := Bool
  modes := [.bo]
  run := fun args objs => match args, objs with
    | [.agg [.lit (.int .i64 v1), .inl true .item v2]], [] => spec_l6NoSend k (⟨v1, v2⟩ : DSend)
    | _, _ => none
  ret := fun r => (.lit (.bool r), [])
  quiet := true
noncomputable def D_spec_l6NoSend (v : V) (os : Objs K TyK) : Option (Bool) :=
  match v, os with
  | .lit (.bool v1), [] => some v1
  | _, _ => none
noncomputable abbrev G_spec_l6NoSend (k : Nat) : FuncId → Option (Summ K TyK) := lookT []
noncomputable abbrev L_spec_l6NoSend : List (Nat × Cut K TyK (Bool)) := []
theorem e_spec_l6NoSend (k : Nat) (a0 : DSend) : run cod T (G_spec_l6NoSend k) (lam L_spec_l6NoSend k) (cutsOf L_spec_l6NoSend) 0 (finish cod T false 0 [.tmp 2] D_spec_l6NoSend) 4000 false [.code (bodyOf Try.f107)] (envOf [0] [.agg [.lit (.int .i64 a0.Base), .inl true .item a0.Items]]) [] = spec_l6NoSend k a0 := by kernel_rfl
theorem ok_spec_l6NoSend (k : Nat) : SummOk Try.prog cod 107 (S_spec_l6NoSend k) := by
  refine summ_of (T := T) Try.f107 (G_spec_l6NoSend) L_spec_l6NoSend false [.tmp 2] 0 D_spec_l6NoSend mixed (fun k => Known.of tok eok codOk ?_) (fun k => QuietOk.of ?_) Try.func107 (by kernel_rfl) (by kernel_rfl) (by kernel_rfl) (by kernel_rfl) (by kernel_rfl) ?_ ?_ [] ?_
  · exact all_nil
  · exact all_nil
  · intro v os r h
    unfold D_spec_l6NoSend at h
    split at h <;> first | (cases h; rfl) | cases h
  · refine all_nil
  · intro args os r h
    change (S_spec_l6NoSend k).run args os = some r at h
    unfold S_spec_l6NoSend at h; dsimp only at h
    split at h
    · exact ⟨Nat.le_of_ble_eq_true (by kernel_rfl), rfl, rfl, k, 4000, (e_spec_l6NoSend k ⟨_, _⟩).trans h⟩
    · cases h
noncomputable def S_spec_l6NoTake (k : Nat) : Summ K TyK where
  R := Bool
  modes := [.bo]
  run := fun args objs => match args, objs with
    | [.agg [.lit (.int .i64 v1), .inl true .held v2, .lit (.string v3), .inl true .str v4]], [] => spec_l6NoTake k (⟨v1, v2, v3, v4⟩ : DTake)
    | _, _ => none
  ret := fun r => (.lit (.bool r), [])
  quiet := true
noncomputable def D_spec_l6NoTake (v : V) (os : Objs K TyK) : Option (Bool) :=
  match v, os with
  | .lit (.bool v1), [] => some v1
  | _, _ => none
noncomputable abbrev G_spec_l6NoTake (k : Nat) : FuncId → Option (Summ K TyK) := lookT []
noncomputable abbrev L_spec_l6NoTake : List (Nat × Cut K TyK (Bool)) := []
theorem e_spec_l6NoTake (k : Nat) (a0 : DTake) : run cod T (G_spec_l6NoTake k) (lam L_spec_l6NoTake k) (cutsOf L_spec_l6NoTake) 0 (finish cod T false 0 [.tmp 2] D_spec_l6NoTake) 4000 false [.code (bodyOf Try.f108)] (envOf [0] [.agg [.lit (.int .i64 a0.Next), .inl true .held a0.Held, .lit (.string a0.Open), .inl true .str a0.Ready]]) [] = spec_l6NoTake k a0 := by kernel_rfl
theorem ok_spec_l6NoTake (k : Nat) : SummOk Try.prog cod 108 (S_spec_l6NoTake k) := by
  refine summ_of (T := T) Try.f108 (G_spec_l6NoTake) L_spec_l6NoTake false [.tmp 2] 0 D_spec_l6NoTake mixed (fun k => Known.of tok eok codOk ?_) (fun k => QuietOk.of ?_) Try.func108 (by kernel_rfl) (by kernel_rfl) (by kernel_rfl) (by kernel_rfl) (by kernel_rfl) ?_ ?_ [] ?_
  · exact all_nil
  · exact all_nil
  · intro v os r h
    unfold D_spec_l6NoTake at h
    split at h <;> first | (cases h; rfl) | cases h
  · refine all_nil
  · intro args os r h
    change (S_spec_l6NoTake k).run args os = some r at h
    unfold S_spec_l6NoTake at h; dsimp only at h
    split at h
    · exact ⟨Nat.le_of_ble_eq_true (by kernel_rfl), rfl, rfl, k, 4000, (e_spec_l6NoTake k ⟨_, _, _, _⟩).trans h⟩
    · cases h
noncomputable def S_spec_ValidEnd (k : Nat) : Summ K TyK where
  R := Bool
  modes := [.bo]
  run := fun args objs => match args, objs with
    | [.agg [.lit (.int .i64 v1), .lit (.bool v2), .lit (.int .i64 v3), .lit (.int .i64 v4), .lit (.int .i64 v5), .lit (.bool v6), .lit (.int .i64 v7), .inl true .item v8, .lit (.int .i64 v9), .inl true .held v10, .lit (.string v11), .inl true .str v12]], [] => spec_ValidEnd k (⟨v1, v2, v3, v4, v5, v6, (⟨v7, v8⟩ : DSend), (⟨v9, v10, v11, v12⟩ : DTake)⟩ : DEnd)
    | _, _ => none
  ret := fun r => (.lit (.bool r), [])
  quiet := true
noncomputable def D_spec_ValidEnd (v : V) (os : Objs K TyK) : Option (Bool) :=
  match v, os with
  | .lit (.bool v1), [] => some v1
  | _, _ => none
noncomputable abbrev G_spec_ValidEnd (k : Nat) : FuncId → Option (Summ K TyK) := lookT [(89, S_spec_l1In k), (105, S_spec_ValidSend k), (106, S_spec_ValidTake k), (107, S_spec_l6NoSend k), (108, S_spec_l6NoTake k)]
noncomputable abbrev L_spec_ValidEnd : List (Nat × Cut K TyK (Bool)) := []
theorem e_spec_ValidEnd (k : Nat) (a0 : DEnd) : run cod T (G_spec_ValidEnd k) (lam L_spec_ValidEnd k) (cutsOf L_spec_ValidEnd) 0 (finish cod T false 0 [.tmp 2] D_spec_ValidEnd) 4000 false [.code (bodyOf Try.f45)] (envOf [0] [.agg [.lit (.int .i64 a0.Number), .lit (.bool a0.Up), .lit (.int .i64 a0.Life), .lit (.int .i64 a0.Peer), .lit (.int .i64 a0.Since), .lit (.bool a0.Owes), .lit (.int .i64 a0.Send.Base), .inl true .item a0.Send.Items, .lit (.int .i64 a0.Take.Next), .inl true .held a0.Take.Held, .lit (.string a0.Take.Open), .inl true .str a0.Take.Ready]]) [] = spec_ValidEnd k a0 := by kernel_rfl
theorem ok_spec_ValidEnd (k : Nat) : SummOk Try.prog cod 45 (S_spec_ValidEnd k) := by
  refine summ_of (T := T) Try.f45 (G_spec_ValidEnd) L_spec_ValidEnd false [.tmp 2] 0 D_spec_ValidEnd mixed (fun k => Known.of tok eok codOk ?_) (fun k => QuietOk.of ?_) Try.func45 (by kernel_rfl) (by kernel_rfl) (by kernel_rfl) (by kernel_rfl) (by kernel_rfl) ?_ ?_ [] ?_
  · exact all_cons (ok_spec_l1In k) (all_cons (ok_spec_ValidSend k) (all_cons (ok_spec_ValidTake k) (all_cons (ok_spec_l6NoSend k) (all_cons (ok_spec_l6NoTake k) (all_nil)))))
  · exact all_cons (fun h r => ⟨rfl, rfl⟩) (all_cons (fun h r => ⟨rfl, rfl⟩) (all_cons (fun h r => ⟨rfl, rfl⟩) (all_cons (fun h r => ⟨rfl, rfl⟩) (all_cons (fun h r => ⟨rfl, rfl⟩) (all_nil)))))
  · intro v os r h
    unfold D_spec_ValidEnd at h
    split at h <;> first | (cases h; rfl) | cases h
  · refine all_nil
  · intro args os r h
    change (S_spec_ValidEnd k).run args os = some r at h
    unfold S_spec_ValidEnd at h; dsimp only at h
    split at h
    · exact ⟨Nat.le_of_ble_eq_true (by kernel_rfl), rfl, rfl, k, 4000, (e_spec_ValidEnd k ⟨_, _, _, _, _, _, ⟨_, _⟩, ⟨_, _, _, _⟩⟩).trans h⟩
    · cases h
noncomputable def S_spec_l4Copy (k : Nat) : Summ K TyK where
  R := DSend
  modes := [.bo]
  run := fun args objs => match args, objs with
    | [.agg [.lit (.int .i64 v1), .inl true .item v2]], [] => spec_l4Copy k (⟨v1, v2⟩ : DSend)
    | _, _ => none
  ret := fun r => (.agg [.lit (.int .i64 r.Base), .own 0], [.sl .item r.Items])
  quiet := false
noncomputable def D_spec_l4Copy (v : V) (os : Objs K TyK) : Option (DSend) :=
  match v, os with
  | .agg [.lit (.int .i64 v1), .own 0], [.sl .item v2] => some (⟨v1, v2⟩ : DSend)
  | _, _ => none
noncomputable abbrev G_spec_l4Copy (k : Nat) : FuncId → Option (Summ K TyK) := lookT []
noncomputable abbrev L_spec_l4Copy : List (Nat × Cut K TyK (DSend)) := []
theorem e_spec_l4Copy (k : Nat) (a0 : DSend) : run cod T (G_spec_l4Copy k) (lam L_spec_l4Copy k) (cutsOf L_spec_l4Copy) 0 (finish cod T false 0 [.cell 2 37] D_spec_l4Copy) 4000 false [.code (bodyOf Try.f118)] (envOf [0] [.agg [.lit (.int .i64 a0.Base), .inl true .item a0.Items]]) [] = spec_l4Copy k a0 := by kernel_rfl
theorem ok_spec_l4Copy (k : Nat) : SummOk Try.prog cod 118 (S_spec_l4Copy k) := by
  refine summ_of (T := T) Try.f118 (G_spec_l4Copy) L_spec_l4Copy false [.cell 2 37] 0 D_spec_l4Copy mixed (fun k => Known.of tok eok codOk ?_) (fun k => QuietOk.of ?_) Try.func118 (by kernel_rfl) (by kernel_rfl) (by kernel_rfl) (by kernel_rfl) (by kernel_rfl) ?_ ?_ [] ?_
  · exact all_nil
  · exact all_nil
  · intro v os r h
    unfold D_spec_l4Copy at h
    split at h <;> first | (cases h; rfl) | cases h
  · refine all_nil
  · intro args os r h
    change (S_spec_l4Copy k).run args os = some r at h
    unfold S_spec_l4Copy at h; dsimp only at h
    split at h
    · exact ⟨Nat.le_of_ble_eq_true (by kernel_rfl), rfl, rfl, k, 4000, (e_spec_l4Copy k ⟨_, _⟩).trans h⟩
    · cases h
noncomputable def S_spec_l5Copy (k : Nat) : Summ K TyK where
  R := DTake
  modes := [.bo]
  run := fun args objs => match args, objs with
    | [.agg [.lit (.int .i64 v1), .inl true .held v2, .lit (.string v3), .inl true .str v4]], [] => spec_l5Copy k (⟨v1, v2, v3, v4⟩ : DTake)
    | _, _ => none
  ret := fun r => (.agg [.lit (.int .i64 r.Next), .own 0, .lit (.string r.Open), .own 1], [.sl .held r.Held, .sl .str r.Ready])
  quiet := false
noncomputable def D_spec_l5Copy (v : V) (os : Objs K TyK) : Option (DTake) :=
  match v, os with
  | .agg [.lit (.int .i64 v1), .own 0, .lit (.string v2), .own 1], [.sl .held v3, .sl .str v4] => some (⟨v1, v3, v2, v4⟩ : DTake)
  | _, _ => none
noncomputable abbrev G_spec_l5Copy (k : Nat) : FuncId → Option (Summ K TyK) := lookT []
noncomputable abbrev L_spec_l5Copy : List (Nat × Cut K TyK (DTake)) := []
theorem e_spec_l5Copy (k : Nat) (a0 : DTake) : run cod T (G_spec_l5Copy k) (lam L_spec_l5Copy k) (cutsOf L_spec_l5Copy) 0 (finish cod T false 0 [.cell 2 40] D_spec_l5Copy) 4000 false [.code (bodyOf Try.f119)] (envOf [0] [.agg [.lit (.int .i64 a0.Next), .inl true .held a0.Held, .lit (.string a0.Open), .inl true .str a0.Ready]]) [] = spec_l5Copy k a0 := by kernel_rfl
theorem ok_spec_l5Copy (k : Nat) : SummOk Try.prog cod 119 (S_spec_l5Copy k) := by
  refine summ_of (T := T) Try.f119 (G_spec_l5Copy) L_spec_l5Copy false [.cell 2 40] 0 D_spec_l5Copy mixed (fun k => Known.of tok eok codOk ?_) (fun k => QuietOk.of ?_) Try.func119 (by kernel_rfl) (by kernel_rfl) (by kernel_rfl) (by kernel_rfl) (by kernel_rfl) ?_ ?_ [] ?_
  · exact all_nil
  · exact all_nil
  · intro v os r h
    unfold D_spec_l5Copy at h
    split at h <;> first | (cases h; rfl) | cases h
  · refine all_nil
  · intro args os r h
    change (S_spec_l5Copy k).run args os = some r at h
    unfold S_spec_l5Copy at h; dsimp only at h
    split at h
    · exact ⟨Nat.le_of_ble_eq_true (by kernel_rfl), rfl, rfl, k, 4000, (e_spec_l5Copy k ⟨_, _, _, _⟩).trans h⟩
    · cases h
noncomputable def S_spec_l6Copy (k : Nat) : Summ K TyK where
  R := DEnd
  modes := [.bo]
  run := fun args objs => match args, objs with
    | [.agg [.lit (.int .i64 v1), .lit (.bool v2), .lit (.int .i64 v3), .lit (.int .i64 v4), .lit (.int .i64 v5), .lit (.bool v6), .lit (.int .i64 v7), .inl true .item v8, .lit (.int .i64 v9), .inl true .held v10, .lit (.string v11), .inl true .str v12]], [] => spec_l6Copy k (⟨v1, v2, v3, v4, v5, v6, (⟨v7, v8⟩ : DSend), (⟨v9, v10, v11, v12⟩ : DTake)⟩ : DEnd)
    | _, _ => none
  ret := fun r => (.agg [.lit (.int .i64 r.Number), .lit (.bool r.Up), .lit (.int .i64 r.Life), .lit (.int .i64 r.Peer), .lit (.int .i64 r.Since), .lit (.bool r.Owes), .lit (.int .i64 r.Send.Base), .own 0, .lit (.int .i64 r.Take.Next), .own 1, .lit (.string r.Take.Open), .own 2], [.sl .item r.Send.Items, .sl .held r.Take.Held, .sl .str r.Take.Ready])
  quiet := false
noncomputable def D_spec_l6Copy (v : V) (os : Objs K TyK) : Option (DEnd) :=
  match v, os with
  | .agg [.lit (.int .i64 v1), .lit (.bool v2), .lit (.int .i64 v3), .lit (.int .i64 v4), .lit (.int .i64 v5), .lit (.bool v6), .lit (.int .i64 v7), .own 0, .lit (.int .i64 v8), .own 1, .lit (.string v9), .own 2], [.sl .item v10, .sl .held v11, .sl .str v12] => some (⟨v1, v2, v3, v4, v5, v6, (⟨v7, v10⟩ : DSend), (⟨v8, v11, v9, v12⟩ : DTake)⟩ : DEnd)
  | _, _ => none
noncomputable abbrev G_spec_l6Copy (k : Nat) : FuncId → Option (Summ K TyK) := lookT [(118, S_spec_l4Copy k), (119, S_spec_l5Copy k)]
noncomputable abbrev L_spec_l6Copy : List (Nat × Cut K TyK (DEnd)) := []
theorem e_spec_l6Copy (k : Nat) (a0 : DEnd) : run cod T (G_spec_l6Copy k) (lam L_spec_l6Copy k) (cutsOf L_spec_l6Copy) 0 (finish cod T false 0 [.cell 2 42] D_spec_l6Copy) 4000 false [.code (bodyOf Try.f52)] (envOf [0] [.agg [.lit (.int .i64 a0.Number), .lit (.bool a0.Up), .lit (.int .i64 a0.Life), .lit (.int .i64 a0.Peer), .lit (.int .i64 a0.Since), .lit (.bool a0.Owes), .lit (.int .i64 a0.Send.Base), .inl true .item a0.Send.Items, .lit (.int .i64 a0.Take.Next), .inl true .held a0.Take.Held, .lit (.string a0.Take.Open), .inl true .str a0.Take.Ready]]) [] = spec_l6Copy k a0 := by kernel_rfl
theorem ok_spec_l6Copy (k : Nat) : SummOk Try.prog cod 52 (S_spec_l6Copy k) := by
  refine summ_of (T := T) Try.f52 (G_spec_l6Copy) L_spec_l6Copy false [.cell 2 42] 0 D_spec_l6Copy mixed (fun k => Known.of tok eok codOk ?_) (fun k => QuietOk.of ?_) Try.func52 (by kernel_rfl) (by kernel_rfl) (by kernel_rfl) (by kernel_rfl) (by kernel_rfl) ?_ ?_ [] ?_
  · exact all_cons (ok_spec_l4Copy k) (all_cons (ok_spec_l5Copy k) (all_nil))
  · exact all_cons (fun h r => by cases h) (all_cons (fun h r => by cases h) (all_nil))
  · intro v os r h
    unfold D_spec_l6Copy at h
    split at h <;> first | (cases h; rfl) | cases h
  · refine all_nil
  · intro args os r h
    change (S_spec_l6Copy k).run args os = some r at h
    unfold S_spec_l6Copy at h; dsimp only at h
    split at h
    · exact ⟨Nat.le_of_ble_eq_true (by kernel_rfl), rfl, rfl, k, 4000, (e_spec_l6Copy k ⟨_, _, _, _, _, _, ⟨_, _⟩, ⟨_, _, _, _⟩⟩).trans h⟩
    · cases h
noncomputable def S_spec_l2Ok (k : Nat) : Summ K TyK where
  R := Bool
  modes := [.bo]
  run := fun args objs => match args, objs with
    | [.agg [.lit (.int .i64 v1), .lit (.int .i64 v2), .lit (.int .i64 v3), .lit (.int .i64 v4), .lit (.int .i64 v5), .lit (.int .i64 v6), .lit (.int .i64 v7), .lit (.bool v8), .lit (.string v9)]], [] => spec_l2Ok k (⟨v1, v2, v3, v4, v5, v6, v7, v8, v9⟩ : DPacket)
    | _, _ => none
  ret := fun r => (.lit (.bool r), [])
  quiet := true
noncomputable def D_spec_l2Ok (v : V) (os : Objs K TyK) : Option (Bool) :=
  match v, os with
  | .lit (.bool v1), [] => some v1
  | _, _ => none
noncomputable abbrev G_spec_l2Ok (k : Nat) : FuncId → Option (Summ K TyK) := lookT [(89, S_spec_l1In k)]
noncomputable abbrev L_spec_l2Ok : List (Nat × Cut K TyK (Bool)) := []
theorem e_spec_l2Ok (k : Nat) (a0 : DPacket) : run cod T (G_spec_l2Ok k) (lam L_spec_l2Ok k) (cutsOf L_spec_l2Ok) 0 (finish cod T false 0 [.tmp 2] D_spec_l2Ok) 4000 false [.code (bodyOf Try.f53)] (envOf [0] [.agg [.lit (.int .i64 a0.Kind), .lit (.int .i64 a0.From), .lit (.int .i64 a0.Mine), .lit (.int .i64 a0.Yours), .lit (.int .i64 a0.Next), .lit (.int .i64 a0.Mask), .lit (.int .i64 a0.Seq), .lit (.bool a0.Last), .lit (.string a0.Part)]]) [] = spec_l2Ok k a0 := by kernel_rfl
theorem ok_spec_l2Ok (k : Nat) : SummOk Try.prog cod 53 (S_spec_l2Ok k) := by
  refine summ_of (T := T) Try.f53 (G_spec_l2Ok) L_spec_l2Ok false [.tmp 2] 0 D_spec_l2Ok mixed (fun k => Known.of tok eok codOk ?_) (fun k => QuietOk.of ?_) Try.func53 (by kernel_rfl) (by kernel_rfl) (by kernel_rfl) (by kernel_rfl) (by kernel_rfl) ?_ ?_ [] ?_
  · exact all_cons (ok_spec_l1In k) (all_nil)
  · exact all_cons (fun h r => ⟨rfl, rfl⟩) (all_nil)
  · intro v os r h
    unfold D_spec_l2Ok at h
    split at h <;> first | (cases h; rfl) | cases h
  · refine all_nil
  · intro args os r h
    change (S_spec_l2Ok k).run args os = some r at h
    unfold S_spec_l2Ok at h; dsimp only at h
    split at h
    · exact ⟨Nat.le_of_ble_eq_true (by kernel_rfl), rfl, rfl, k, 4000, (e_spec_l2Ok k ⟨_, _, _, _, _, _, _, _, _⟩).trans h⟩
    · cases h
noncomputable def S_spec_l4Front (k : Nat) : Summ K TyK where
  R := Int
  modes := [.bo]
  run := fun args objs => match args, objs with
    | [.agg [.lit (.int .i64 v1), .inl true .item v2]], [] => spec_l4Front k (⟨v1, v2⟩ : DSend)
    | _, _ => none
  ret := fun r => (.lit (.int .i64 r), [])
  quiet := true
noncomputable def D_spec_l4Front (v : V) (os : Objs K TyK) : Option (Int) :=
  match v, os with
  | .lit (.int .i64 v1), [] => some v1
  | _, _ => none
noncomputable def C_spec_l4Front_2 : Cut K TyK (Int) where
  slots := [1, 3]
  fn := fun k vs os => match vs, os with
    | [.ref 0 0, .lit (.int .i64 x0)], [.box [.lit (.int .i64 x1), .inl true .item x2]] => spec_l4Front_l2 k x0 x1 x2
    | _, _ => none
noncomputable abbrev G_spec_l4Front (k : Nat) : FuncId → Option (Summ K TyK) := lookT []
noncomputable abbrev L_spec_l4Front : List (Nat × Cut K TyK (Int)) := [(2, C_spec_l4Front_2)]
theorem c_spec_l4Front_2 (k : Nat) (x0 : Int) (x1 : Int) (x2 : List DItem) : run cod T (G_spec_l4Front k) (lam L_spec_l4Front k) (cutsOf L_spec_l4Front) 0 (finish cod T false 0 [.tmp 2] D_spec_l4Front) 4000 true (todoAt 2 (bodyOf Try.f120)) (envOf [1, 3] [.ref 0 0, .lit (.int .i64 x0)]) [.box [.lit (.int .i64 x1), .inl true .item x2]] = spec_l4Front_l2 (k + 1) x0 x1 x2 := by kernel_rfl
theorem e_spec_l4Front (k : Nat) (a0 : DSend) : run cod T (G_spec_l4Front k) (lam L_spec_l4Front k) (cutsOf L_spec_l4Front) 0 (finish cod T false 0 [.tmp 2] D_spec_l4Front) 4000 false [.code (bodyOf Try.f120)] (envOf [0] [.agg [.lit (.int .i64 a0.Base), .inl true .item a0.Items]]) [] = spec_l4Front k a0 := by kernel_rfl
theorem ok_spec_l4Front (k : Nat) : SummOk Try.prog cod 120 (S_spec_l4Front k) := by
  refine summ_of (T := T) Try.f120 (G_spec_l4Front) L_spec_l4Front false [.tmp 2] 0 D_spec_l4Front mixed (fun k => Known.of tok eok codOk ?_) (fun k => QuietOk.of ?_) Try.func120 (by kernel_rfl) (by kernel_rfl) (by kernel_rfl) (by kernel_rfl) (by kernel_rfl) ?_ ?_ [] ?_
  · exact all_nil
  · exact all_nil
  · intro v os r h
    unfold D_spec_l4Front at h
    split at h <;> first | (cases h; rfl) | cases h
  · refine all_cons ?_ (all_nil)
    · refine ⟨fun vs os => ?_, by kernel_rfl, fun k vs os r h => ?_⟩
      · show C_spec_l4Front_2.fn 0 vs os = none
        unfold C_spec_l4Front_2; dsimp only; split <;> rfl
      · change C_spec_l4Front_2.fn (k + 1) vs os = some r at h
        unfold C_spec_l4Front_2 at h; dsimp only at h
        split at h
        · exact ⟨4000, (c_spec_l4Front_2 k _ _ _).trans h⟩
        · cases h
  · intro args os r h
    change (S_spec_l4Front k).run args os = some r at h
    unfold S_spec_l4Front at h; dsimp only at h
    split at h
    · exact ⟨Nat.le_of_ble_eq_true (by kernel_rfl), rfl, rfl, k, 4000, (e_spec_l4Front k ⟨_, _⟩).trans h⟩
    · cases h
noncomputable def S_spec_SendWord (k : Nat) : Summ K TyK where
  R := DSend
  modes := [.bo, .bo, .bo]
  run := fun args objs => match args, objs with
    | [.agg [.lit (.int .i64 v1), .inl true .item v2], .lit (.int .i64 v3), .lit (.int .i64 v4)], [] => spec_SendWord k (⟨v1, v2⟩ : DSend) v3 v4
    | _, _ => none
  ret := fun r => (.agg [.lit (.int .i64 r.Base), .own 0], [.sl .item r.Items])
  quiet := false
noncomputable def D_spec_SendWord (v : V) (os : Objs K TyK) : Option (DSend) :=
  match v, os with
  | .agg [.lit (.int .i64 v1), .own 0], [.sl .item v2] => some (⟨v1, v2⟩ : DSend)
  | _, _ => none
noncomputable def C_spec_SendWord_9 : Cut K TyK (DSend) where
  slots := [2, 6, 7, 8]
  fn := fun k vs os => match vs, os with
    | [.lit (.int .i64 x0), .ref 0 0, .ref 1 0, .lit (.int .i64 x1)], [.box [.lit (.int .i64 x2), .own 2], .box [.lit (.int .i64 x3), .own 3], .sl .item x4, .sl .item x5] => spec_SendWord_l9 k x0 x1 x2 x3 x4 x5
    | _, _ => none
noncomputable def C_spec_SendWord_13 : Cut K TyK (DSend) where
  slots := [2, 6, 7, 8]
  fn := fun k vs os => match vs, os with
    | [.lit (.int .i64 x0), .ref 0 0, .ref 1 0, .lit (.int .i64 x1)], [.box [.lit (.int .i64 x2), .own 2], .box [.lit (.int .i64 x3), .own 3], .sl .item x4, .sl .item x5] => spec_SendWord_l13 k x0 x1 x2 x3 x4 x5
    | _, _ => none
noncomputable abbrev G_spec_SendWord (k : Nat) : FuncId → Option (Summ K TyK) := lookT [(105, S_spec_ValidSend k), (118, S_spec_l4Copy k), (120, S_spec_l4Front k), (89, S_spec_l1In k)]
noncomputable abbrev L_spec_SendWord : List (Nat × Cut K TyK (DSend)) := [(9, C_spec_SendWord_9), (13, C_spec_SendWord_13)]
theorem c_spec_SendWord_9 (k : Nat) (x0 : Int) (x1 : Int) (x2 : Int) (x3 : Int) (x4 : List DItem) (x5 : List DItem) : run cod T (G_spec_SendWord k) (lam L_spec_SendWord k) (cutsOf L_spec_SendWord) 0 (finish cod T false 0 [.cell 6 37] D_spec_SendWord) 4000 true (todoAt 9 (bodyOf Try.f54)) (envOf [2, 6, 7, 8] [.lit (.int .i64 x0), .ref 0 0, .ref 1 0, .lit (.int .i64 x1)]) [.box [.lit (.int .i64 x2), .own 2], .box [.lit (.int .i64 x3), .own 3], .sl .item x4, .sl .item x5] = spec_SendWord_l9 (k + 1) x0 x1 x2 x3 x4 x5 := by kernel_rfl
theorem c_spec_SendWord_13 (k : Nat) (x0 : Int) (x1 : Int) (x2 : Int) (x3 : Int) (x4 : List DItem) (x5 : List DItem) : run cod T (G_spec_SendWord k) (lam L_spec_SendWord k) (cutsOf L_spec_SendWord) 0 (finish cod T false 0 [.cell 6 37] D_spec_SendWord) 4000 true (todoAt 13 (bodyOf Try.f54)) (envOf [2, 6, 7, 8] [.lit (.int .i64 x0), .ref 0 0, .ref 1 0, .lit (.int .i64 x1)]) [.box [.lit (.int .i64 x2), .own 2], .box [.lit (.int .i64 x3), .own 3], .sl .item x4, .sl .item x5] = spec_SendWord_l13 (k + 1) x0 x1 x2 x3 x4 x5 := by kernel_rfl
theorem e_spec_SendWord (k : Nat) (a0 : DSend) (a1 : Int) (a2 : Int) : run cod T (G_spec_SendWord k) (lam L_spec_SendWord k) (cutsOf L_spec_SendWord) 0 (finish cod T false 0 [.cell 6 37] D_spec_SendWord) 4000 false [.code (bodyOf Try.f54)] (envOf [0, 1, 2] [.agg [.lit (.int .i64 a0.Base), .inl true .item a0.Items], .lit (.int .i64 a1), .lit (.int .i64 a2)]) [] = spec_SendWord k a0 a1 a2 := by kernel_rfl
theorem ok_spec_SendWord (k : Nat) : SummOk Try.prog cod 54 (S_spec_SendWord k) := by
  refine summ_of (T := T) Try.f54 (G_spec_SendWord) L_spec_SendWord false [.cell 6 37] 0 D_spec_SendWord mixed (fun k => Known.of tok eok codOk ?_) (fun k => QuietOk.of ?_) Try.func54 (by kernel_rfl) (by kernel_rfl) (by kernel_rfl) (by kernel_rfl) (by kernel_rfl) ?_ ?_ [] ?_
  · exact all_cons (ok_spec_ValidSend k) (all_cons (ok_spec_l4Copy k) (all_cons (ok_spec_l4Front k) (all_cons (ok_spec_l1In k) (all_nil))))
  · exact all_cons (fun h r => ⟨rfl, rfl⟩) (all_cons (fun h r => by cases h) (all_cons (fun h r => ⟨rfl, rfl⟩) (all_cons (fun h r => ⟨rfl, rfl⟩) (all_nil))))
  · intro v os r h
    unfold D_spec_SendWord at h
    split at h <;> first | (cases h; rfl) | cases h
  · refine all_cons ?_ (all_cons ?_ (all_nil))
    · refine ⟨fun vs os => ?_, by kernel_rfl, fun k vs os r h => ?_⟩
      · show C_spec_SendWord_9.fn 0 vs os = none
        unfold C_spec_SendWord_9; dsimp only; split <;> rfl
      · change C_spec_SendWord_9.fn (k + 1) vs os = some r at h
        unfold C_spec_SendWord_9 at h; dsimp only at h
        split at h
        · exact ⟨4000, (c_spec_SendWord_9 k _ _ _ _ _ _).trans h⟩
        · cases h
    · refine ⟨fun vs os => ?_, by kernel_rfl, fun k vs os r h => ?_⟩
      · show C_spec_SendWord_13.fn 0 vs os = none
        unfold C_spec_SendWord_13; dsimp only; split <;> rfl
      · change C_spec_SendWord_13.fn (k + 1) vs os = some r at h
        unfold C_spec_SendWord_13 at h; dsimp only at h
        split at h
        · exact ⟨4000, (c_spec_SendWord_13 k _ _ _ _ _ _).trans h⟩
        · cases h
  · intro args os r h
    change (S_spec_SendWord k).run args os = some r at h
    unfold S_spec_SendWord at h; dsimp only at h
    split at h
    · exact ⟨Nat.le_of_ble_eq_true (by kernel_rfl), rfl, rfl, k, 4000, (e_spec_SendWord k ⟨_, _⟩ _ _).trans h⟩
    · cases h
noncomputable def S_spec_l5In (k : Nat) : Summ K TyK where
  R := DTake
  modes := [.mv]
  run := fun args objs => match args, objs with
    | [.agg [.lit (.int .i64 v1), .own 0, .lit (.string v2), .own 1]], [.sl .held v3, .sl .str v4] => spec_l5In k (⟨v1, v3, v2, v4⟩ : DTake)
    | _, _ => none
  ret := fun r => (.agg [.lit (.int .i64 r.Next), .own 2, .lit (.string r.Open), .own 3], [.dead, .dead, .sl .held r.Held, .sl .str r.Ready])
  quiet := false
noncomputable def D_spec_l5In (v : V) (os : Objs K TyK) : Option (DTake) :=
  match v, os with
  | .agg [.lit (.int .i64 v1), .own 2, .lit (.string v2), .own 3], [.dead, .dead, .sl .held v3, .sl .str v4] => some (⟨v1, v3, v2, v4⟩ : DTake)
  | _, _ => none
noncomputable def C_spec_l5In_1 : Cut K TyK (DTake) where
  slots := [1, 2]
  fn := fun k vs os => match vs, os with
    | [.ref 2 0, .ref 3 0], [.dead, .dead, .box [.lit (.int .i64 x0), .own 4, .lit (.string x1), .own 5], .box [.lit (.int .i64 x2), .own 6, .lit (.string x3), .own 7], .sl .held x4, .sl .str x5, .sl .held x6, .sl .str x7] => spec_l5In_l1 k x0 x1 x2 x3 x4 x5 x6 x7
    | _, _ => none
noncomputable abbrev G_spec_l5In (k : Nat) : FuncId → Option (Summ K TyK) := lookT [(157, S_spec_l5Can k)]
noncomputable abbrev L_spec_l5In : List (Nat × Cut K TyK (DTake)) := [(1, C_spec_l5In_1)]
theorem c_spec_l5In_1 (k : Nat) (x0 : Int) (x1 : ByteArray) (x2 : Int) (x3 : ByteArray) (x4 : List DHeld) (x5 : List ByteArray) (x6 : List DHeld) (x7 : List ByteArray) : run cod T (G_spec_l5In k) (lam L_spec_l5In k) (cutsOf L_spec_l5In) 2 (finish cod T false 2 [.cell 2 40] D_spec_l5In) 4000 true (todoAt 1 (bodyOf Try.f122)) (envOf [1, 2] [.ref 2 0, .ref 3 0]) [.dead, .dead, .box [.lit (.int .i64 x0), .own 4, .lit (.string x1), .own 5], .box [.lit (.int .i64 x2), .own 6, .lit (.string x3), .own 7], .sl .held x4, .sl .str x5, .sl .held x6, .sl .str x7] = spec_l5In_l1 (k + 1) x0 x1 x2 x3 x4 x5 x6 x7 := by kernel_rfl
theorem e_spec_l5In (k : Nat) (a0 : DTake) : run cod T (G_spec_l5In k) (lam L_spec_l5In k) (cutsOf L_spec_l5In) 2 (finish cod T false 2 [.cell 2 40] D_spec_l5In) 4000 false [.code (bodyOf Try.f122)] (envOf [0] [.agg [.lit (.int .i64 a0.Next), .own 2, .lit (.string a0.Open), .own 3]]) [.dead, .dead, .sl .held a0.Held, .sl .str a0.Ready] = spec_l5In k a0 := by kernel_rfl
theorem ok_spec_l5In (k : Nat) : SummOk Try.prog cod 122 (S_spec_l5In k) := by
  refine summ_of (T := T) Try.f122 (G_spec_l5In) L_spec_l5In false [.cell 2 40] 2 D_spec_l5In mixed (fun k => Known.of tok eok codOk ?_) (fun k => QuietOk.of ?_) Try.func122 (by kernel_rfl) (by kernel_rfl) (by kernel_rfl) (by kernel_rfl) (by kernel_rfl) ?_ ?_ [true, true] ?_
  · exact all_cons (ok_spec_l5Can k) (all_nil)
  · exact all_cons (fun h r => ⟨rfl, rfl⟩) (all_nil)
  · intro v os r h
    unfold D_spec_l5In at h
    split at h <;> first | (cases h; rfl) | cases h
  · refine all_cons ?_ (all_nil)
    · refine ⟨fun vs os => ?_, by kernel_rfl, fun k vs os r h => ?_⟩
      · show C_spec_l5In_1.fn 0 vs os = none
        unfold C_spec_l5In_1; dsimp only; split <;> rfl
      · change C_spec_l5In_1.fn (k + 1) vs os = some r at h
        unfold C_spec_l5In_1 at h; dsimp only at h
        split at h
        · exact ⟨4000, (c_spec_l5In_1 k _ _ _ _ _ _ _ _).trans h⟩
        · cases h
  · intro args os r h
    change (S_spec_l5In k).run args os = some r at h
    unfold S_spec_l5In at h; dsimp only at h
    split at h
    · exact ⟨Nat.le_of_ble_eq_true (by kernel_rfl), rfl, rfl, k, 4000, (e_spec_l5In k ⟨_, _, _, _⟩).trans h⟩
    · cases h
noncomputable def S_spec_TakePart (k : Nat) : Summ K TyK where
  R := DTake
  modes := [.bo, .bo, .bo]
  run := fun args objs => match args, objs with
    | [.agg [.lit (.int .i64 v1), .inl true .held v2, .lit (.string v3), .inl true .str v4], .lit (.int .i64 v5), .agg [.lit (.string v6), .lit (.bool v7)]], [] => spec_TakePart k (⟨v1, v2, v3, v4⟩ : DTake) v5 (⟨v6, v7⟩ : DPart)
    | _, _ => none
  ret := fun r => (.agg [.lit (.int .i64 r.Next), .own 0, .lit (.string r.Open), .own 1], [.sl .held r.Held, .sl .str r.Ready])
  quiet := false
noncomputable def D_spec_TakePart (v : V) (os : Objs K TyK) : Option (DTake) :=
  match v, os with
  | .agg [.lit (.int .i64 v1), .own 0, .lit (.string v2), .own 1], [.sl .held v3, .sl .str v4] => some (⟨v1, v3, v2, v4⟩ : DTake)
  | _, _ => none
noncomputable def C_spec_TakePart_9 : Cut K TyK (DTake) where
  slots := [1, 3, 5, 6, 7, 8, 9, 10]
  fn := fun k vs os => match vs, os with
    | [.lit (.int .i64 x0), .ref 0 0, .ref 1 0, .ref 2 0, .ref 3 0, .own 4, .lit (.bool x1), .lit (.int .i64 x2)], [.box [.lit (.int .i64 x3), .inl true .held x4, .lit (.string x5), .inl true .str x6], .box [.lit (.string x7), .lit (.bool x8)], .box [.lit (.int .i64 x9), .own 5, .lit (.string x10), .own 6], .box [.lit (.int .i64 x11), .own 7, .lit (.string x12), .own 8], .sl .held x13, .sl .held x14, .sl .str x15, .sl .held x16, .sl .str x17] => spec_TakePart_l9 k x0 x1 x2 x3 x4 x5 x6 x7 x8 x9 x10 x11 x12 x13 x14 x15 x16 x17
    | _, _ => none
noncomputable def C_spec_TakePart_16 : Cut K TyK (DTake) where
  slots := [1, 3, 5, 6, 7, 8, 9, 10]
  fn := fun k vs os => match vs, os with
    | [.lit (.int .i64 x0), .ref 0 0, .ref 1 0, .ref 2 0, .ref 3 0, .own 4, .lit (.bool x1), .lit (.int .i64 x2)], [.box [.lit (.int .i64 x3), .inl true .held x4, .lit (.string x5), .inl true .str x6], .box [.lit (.string x7), .lit (.bool x8)], .box [.lit (.int .i64 x9), .own 5, .lit (.string x10), .own 6], .box [.lit (.int .i64 x11), .own 7, .lit (.string x12), .own 8], .sl .held x13, .sl .held x14, .sl .str x15, .sl .held x16, .sl .str x17] => spec_TakePart_l16 k x0 x1 x2 x3 x4 x5 x6 x7 x8 x9 x10 x11 x12 x13 x14 x15 x16 x17
    | _, _ => none
noncomputable def C_spec_TakePart_19 : Cut K TyK (DTake) where
  slots := [6, 7, 8]
  fn := fun k vs os => match vs, os with
    | [.ref 0 0, .ref 1 0, .own 2], [.box [.lit (.int .i64 x0), .own 3, .lit (.string x1), .own 4], .box [.lit (.int .i64 x2), .own 5, .lit (.string x3), .own 6], .sl .held x4, .sl .held x5, .sl .str x6, .sl .held x7, .sl .str x8] => spec_TakePart_l19 k x0 x1 x2 x3 x4 x5 x6 x7 x8
    | _, _ => none
noncomputable abbrev G_spec_TakePart (k : Nat) : FuncId → Option (Summ K TyK) := lookT [(106, S_spec_ValidTake k), (119, S_spec_l5Copy k), (121, S_spec_l5Near k), (122, S_spec_l5In k)]
noncomputable abbrev L_spec_TakePart : List (Nat × Cut K TyK (DTake)) := [(9, C_spec_TakePart_9), (16, C_spec_TakePart_16), (19, C_spec_TakePart_19)]
theorem c_spec_TakePart_9 (k : Nat) (x0 : Int) (x1 : Bool) (x2 : Int) (x3 : Int) (x4 : List DHeld) (x5 : ByteArray) (x6 : List ByteArray) (x7 : ByteArray) (x8 : Bool) (x9 : Int) (x10 : ByteArray) (x11 : Int) (x12 : ByteArray) (x13 : List DHeld) (x14 : List DHeld) (x15 : List ByteArray) (x16 : List DHeld) (x17 : List ByteArray) : run cod T (G_spec_TakePart k) (lam L_spec_TakePart k) (cutsOf L_spec_TakePart) 0 (finish cod T false 0 [.cell 6 40] D_spec_TakePart) 4000 true (todoAt 9 (bodyOf Try.f55)) (envOf [1, 3, 5, 6, 7, 8, 9, 10] [.lit (.int .i64 x0), .ref 0 0, .ref 1 0, .ref 2 0, .ref 3 0, .own 4, .lit (.bool x1), .lit (.int .i64 x2)]) [.box [.lit (.int .i64 x3), .inl true .held x4, .lit (.string x5), .inl true .str x6], .box [.lit (.string x7), .lit (.bool x8)], .box [.lit (.int .i64 x9), .own 5, .lit (.string x10), .own 6], .box [.lit (.int .i64 x11), .own 7, .lit (.string x12), .own 8], .sl .held x13, .sl .held x14, .sl .str x15, .sl .held x16, .sl .str x17] = spec_TakePart_l9 (k + 1) x0 x1 x2 x3 x4 x5 x6 x7 x8 x9 x10 x11 x12 x13 x14 x15 x16 x17 := by kernel_rfl
theorem c_spec_TakePart_16 (k : Nat) (x0 : Int) (x1 : Bool) (x2 : Int) (x3 : Int) (x4 : List DHeld) (x5 : ByteArray) (x6 : List ByteArray) (x7 : ByteArray) (x8 : Bool) (x9 : Int) (x10 : ByteArray) (x11 : Int) (x12 : ByteArray) (x13 : List DHeld) (x14 : List DHeld) (x15 : List ByteArray) (x16 : List DHeld) (x17 : List ByteArray) : run cod T (G_spec_TakePart k) (lam L_spec_TakePart k) (cutsOf L_spec_TakePart) 0 (finish cod T false 0 [.cell 6 40] D_spec_TakePart) 4000 true (todoAt 16 (bodyOf Try.f55)) (envOf [1, 3, 5, 6, 7, 8, 9, 10] [.lit (.int .i64 x0), .ref 0 0, .ref 1 0, .ref 2 0, .ref 3 0, .own 4, .lit (.bool x1), .lit (.int .i64 x2)]) [.box [.lit (.int .i64 x3), .inl true .held x4, .lit (.string x5), .inl true .str x6], .box [.lit (.string x7), .lit (.bool x8)], .box [.lit (.int .i64 x9), .own 5, .lit (.string x10), .own 6], .box [.lit (.int .i64 x11), .own 7, .lit (.string x12), .own 8], .sl .held x13, .sl .held x14, .sl .str x15, .sl .held x16, .sl .str x17] = spec_TakePart_l16 (k + 1) x0 x1 x2 x3 x4 x5 x6 x7 x8 x9 x10 x11 x12 x13 x14 x15 x16 x17 := by kernel_rfl
theorem c_spec_TakePart_19 (k : Nat) (x0 : Int) (x1 : ByteArray) (x2 : Int) (x3 : ByteArray) (x4 : List DHeld) (x5 : List DHeld) (x6 : List ByteArray) (x7 : List DHeld) (x8 : List ByteArray) : run cod T (G_spec_TakePart k) (lam L_spec_TakePart k) (cutsOf L_spec_TakePart) 0 (finish cod T false 0 [.cell 6 40] D_spec_TakePart) 4000 true (todoAt 19 (bodyOf Try.f55)) (envOf [6, 7, 8] [.ref 0 0, .ref 1 0, .own 2]) [.box [.lit (.int .i64 x0), .own 3, .lit (.string x1), .own 4], .box [.lit (.int .i64 x2), .own 5, .lit (.string x3), .own 6], .sl .held x4, .sl .held x5, .sl .str x6, .sl .held x7, .sl .str x8] = spec_TakePart_l19 (k + 1) x0 x1 x2 x3 x4 x5 x6 x7 x8 := by kernel_rfl
theorem e_spec_TakePart (k : Nat) (a0 : DTake) (a1 : Int) (a2 : DPart) : run cod T (G_spec_TakePart k) (lam L_spec_TakePart k) (cutsOf L_spec_TakePart) 0 (finish cod T false 0 [.cell 6 40] D_spec_TakePart) 4000 false [.code (bodyOf Try.f55)] (envOf [0, 1, 2] [.agg [.lit (.int .i64 a0.Next), .inl true .held a0.Held, .lit (.string a0.Open), .inl true .str a0.Ready], .lit (.int .i64 a1), .agg [.lit (.string a2.Text), .lit (.bool a2.Last)]]) [] = spec_TakePart k a0 a1 a2 := by kernel_rfl
theorem ok_spec_TakePart (k : Nat) : SummOk Try.prog cod 55 (S_spec_TakePart k) := by
  refine summ_of (T := T) Try.f55 (G_spec_TakePart) L_spec_TakePart false [.cell 6 40] 0 D_spec_TakePart mixed (fun k => Known.of tok eok codOk ?_) (fun k => QuietOk.of ?_) Try.func55 (by kernel_rfl) (by kernel_rfl) (by kernel_rfl) (by kernel_rfl) (by kernel_rfl) ?_ ?_ [] ?_
  · exact all_cons (ok_spec_ValidTake k) (all_cons (ok_spec_l5Copy k) (all_cons (ok_spec_l5Near k) (all_cons (ok_spec_l5In k) (all_nil))))
  · exact all_cons (fun h r => ⟨rfl, rfl⟩) (all_cons (fun h r => by cases h) (all_cons (fun h r => ⟨rfl, rfl⟩) (all_cons (fun h r => by cases h) (all_nil))))
  · intro v os r h
    unfold D_spec_TakePart at h
    split at h <;> first | (cases h; rfl) | cases h
  · refine all_cons ?_ (all_cons ?_ (all_cons ?_ (all_nil)))
    · refine ⟨fun vs os => ?_, by kernel_rfl, fun k vs os r h => ?_⟩
      · show C_spec_TakePart_9.fn 0 vs os = none
        unfold C_spec_TakePart_9; dsimp only; split <;> rfl
      · change C_spec_TakePart_9.fn (k + 1) vs os = some r at h
        unfold C_spec_TakePart_9 at h; dsimp only at h
        split at h
        · exact ⟨4000, (c_spec_TakePart_9 k _ _ _ _ _ _ _ _ _ _ _ _ _ _ _ _ _ _).trans h⟩
        · cases h
    · refine ⟨fun vs os => ?_, by kernel_rfl, fun k vs os r h => ?_⟩
      · show C_spec_TakePart_16.fn 0 vs os = none
        unfold C_spec_TakePart_16; dsimp only; split <;> rfl
      · change C_spec_TakePart_16.fn (k + 1) vs os = some r at h
        unfold C_spec_TakePart_16 at h; dsimp only at h
        split at h
        · exact ⟨4000, (c_spec_TakePart_16 k _ _ _ _ _ _ _ _ _ _ _ _ _ _ _ _ _ _).trans h⟩
        · cases h
    · refine ⟨fun vs os => ?_, by kernel_rfl, fun k vs os r h => ?_⟩
      · show C_spec_TakePart_19.fn 0 vs os = none
        unfold C_spec_TakePart_19; dsimp only; split <;> rfl
      · change C_spec_TakePart_19.fn (k + 1) vs os = some r at h
        unfold C_spec_TakePart_19 at h; dsimp only at h
        split at h
        · exact ⟨4000, (c_spec_TakePart_19 k _ _ _ _ _ _ _ _ _).trans h⟩
        · cases h
  · intro args os r h
    change (S_spec_TakePart k).run args os = some r at h
    unfold S_spec_TakePart at h; dsimp only at h
    split at h
    · exact ⟨Nat.le_of_ble_eq_true (by kernel_rfl), rfl, rfl, k, 4000, (e_spec_TakePart k ⟨_, _, _, _⟩ _ ⟨_, _⟩).trans h⟩
    · cases h
noncomputable def S_spec_EndTake (k : Nat) : Summ K TyK where
  R := DActed
  modes := [.bo, .bo]
  run := fun args objs => match args, objs with
    | [.agg [.lit (.int .i64 v1), .lit (.bool v2), .lit (.int .i64 v3), .lit (.int .i64 v4), .lit (.int .i64 v5), .lit (.bool v6), .lit (.int .i64 v7), .inl true .item v8, .lit (.int .i64 v9), .inl true .held v10, .lit (.string v11), .inl true .str v12], .agg [.lit (.int .i64 v13), .lit (.int .i64 v14), .lit (.int .i64 v15), .lit (.int .i64 v16), .lit (.int .i64 v17), .lit (.int .i64 v18), .lit (.int .i64 v19), .lit (.bool v20), .lit (.string v21)]], [] => spec_EndTake k (⟨v1, v2, v3, v4, v5, v6, (⟨v7, v8⟩ : DSend), (⟨v9, v10, v11, v12⟩ : DTake)⟩ : DEnd) (⟨v13, v14, v15, v16, v17, v18, v19, v20, v21⟩ : DPacket)
    | _, _ => none
  ret := fun r => (.agg [.lit (.int .i64 r.Code), .lit (.int .i64 r.End.Number), .lit (.bool r.End.Up), .lit (.int .i64 r.End.Life), .lit (.int .i64 r.End.Peer), .lit (.int .i64 r.End.Since), .lit (.bool r.End.Owes), .lit (.int .i64 r.End.Send.Base), .own 0, .lit (.int .i64 r.End.Take.Next), .own 1, .lit (.string r.End.Take.Open), .own 2, .own 3, .lit (.string r.Text)], [.sl .item r.End.Send.Items, .sl .held r.End.Take.Held, .sl .str r.End.Take.Ready, .sl .packet r.Out])
  quiet := false
noncomputable def D_spec_EndTake (v : V) (os : Objs K TyK) : Option (DActed) :=
  match v, os with
  | .agg [.lit (.int .i64 v1), .lit (.int .i64 v2), .lit (.bool v3), .lit (.int .i64 v4), .lit (.int .i64 v5), .lit (.int .i64 v6), .lit (.bool v7), .lit (.int .i64 v8), .own 0, .lit (.int .i64 v9), .own 1, .lit (.string v10), .own 2, .own 3, .lit (.string v11)], [.sl .item v12, .sl .held v13, .sl .str v14, .sl .packet v15] => some (⟨v1, (⟨v2, v3, v4, v5, v6, v7, (⟨v8, v12⟩ : DSend), (⟨v9, v13, v10, v14⟩ : DTake)⟩ : DEnd), v15, v11⟩ : DActed)
  | _, _ => none
noncomputable def C_spec_EndTake_11 : Cut K TyK (DActed) where
  slots := [3, 4, 5]
  fn := fun k vs os => match vs, os with
    | [.ref 0 0, .ref 1 0, .ref 2 0], [.box [.lit (.int .i64 x0), .lit (.int .i64 x1), .lit (.int .i64 x2), .lit (.int .i64 x3), .lit (.int .i64 x4), .lit (.int .i64 x5), .lit (.int .i64 x6), .lit (.bool x7), .lit (.string x8)], .box [.lit (.int .i64 x9), .lit (.int .i64 x10), .lit (.bool x11), .lit (.int .i64 x12), .lit (.int .i64 x13), .lit (.int .i64 x14), .lit (.bool x15), .lit (.int .i64 x16), .own 3, .lit (.int .i64 x17), .own 4, .lit (.string x18), .own 5, .own 6, .lit (.string x19)], .box [.lit (.int .i64 x20), .lit (.bool x21), .lit (.int .i64 x22), .lit (.int .i64 x23), .lit (.int .i64 x24), .lit (.bool x25), .lit (.int .i64 x26), .own 7, .lit (.int .i64 x27), .own 8, .lit (.string x28), .own 9], .sl .item x29, .sl .held x30, .sl .str x31, .sl .packet x32, .sl .item x33, .sl .held x34, .sl .str x35] => spec_EndTake_l11 k x0 x1 x2 x3 x4 x5 x6 x7 x8 x9 x10 x11 x12 x13 x14 x15 x16 x17 x18 x19 x20 x21 x22 x23 x24 x25 x26 x27 x28 x29 x30 x31 x32 x33 x34 x35
    | _, _ => none
noncomputable abbrev G_spec_EndTake (k : Nat) : FuncId → Option (Summ K TyK) := lookT [(45, S_spec_ValidEnd k), (52, S_spec_l6Copy k), (53, S_spec_l2Ok k), (54, S_spec_SendWord k), (55, S_spec_TakePart k)]
noncomputable abbrev L_spec_EndTake : List (Nat × Cut K TyK (DActed)) := [(11, C_spec_EndTake_11)]
theorem c_spec_EndTake_11 (k : Nat) (x0 : Int) (x1 : Int) (x2 : Int) (x3 : Int) (x4 : Int) (x5 : Int) (x6 : Int) (x7 : Bool) (x8 : ByteArray) (x9 : Int) (x10 : Int) (x11 : Bool) (x12 : Int) (x13 : Int) (x14 : Int) (x15 : Bool) (x16 : Int) (x17 : Int) (x18 : ByteArray) (x19 : ByteArray) (x20 : Int) (x21 : Bool) (x22 : Int) (x23 : Int) (x24 : Int) (x25 : Bool) (x26 : Int) (x27 : Int) (x28 : ByteArray) (x29 : List DItem) (x30 : List DHeld) (x31 : List ByteArray) (x32 : List DPacket) (x33 : List DItem) (x34 : List DHeld) (x35 : List ByteArray) : run cod T (G_spec_EndTake k) (lam L_spec_EndTake k) (cutsOf L_spec_EndTake) 0 (finish cod T false 0 [.cell 4 45] D_spec_EndTake) 4000 true (todoAt 11 (bodyOf Try.f12)) (envOf [3, 4, 5] [.ref 0 0, .ref 1 0, .ref 2 0]) [.box [.lit (.int .i64 x0), .lit (.int .i64 x1), .lit (.int .i64 x2), .lit (.int .i64 x3), .lit (.int .i64 x4), .lit (.int .i64 x5), .lit (.int .i64 x6), .lit (.bool x7), .lit (.string x8)], .box [.lit (.int .i64 x9), .lit (.int .i64 x10), .lit (.bool x11), .lit (.int .i64 x12), .lit (.int .i64 x13), .lit (.int .i64 x14), .lit (.bool x15), .lit (.int .i64 x16), .own 3, .lit (.int .i64 x17), .own 4, .lit (.string x18), .own 5, .own 6, .lit (.string x19)], .box [.lit (.int .i64 x20), .lit (.bool x21), .lit (.int .i64 x22), .lit (.int .i64 x23), .lit (.int .i64 x24), .lit (.bool x25), .lit (.int .i64 x26), .own 7, .lit (.int .i64 x27), .own 8, .lit (.string x28), .own 9], .sl .item x29, .sl .held x30, .sl .str x31, .sl .packet x32, .sl .item x33, .sl .held x34, .sl .str x35] = spec_EndTake_l11 (k + 1) x0 x1 x2 x3 x4 x5 x6 x7 x8 x9 x10 x11 x12 x13 x14 x15 x16 x17 x18 x19 x20 x21 x22 x23 x24 x25 x26 x27 x28 x29 x30 x31 x32 x33 x34 x35 := by kernel_rfl
theorem e_spec_EndTake (k : Nat) (a0 : DEnd) (a1 : DPacket) : run cod T (G_spec_EndTake k) (lam L_spec_EndTake k) (cutsOf L_spec_EndTake) 0 (finish cod T false 0 [.cell 4 45] D_spec_EndTake) 4000 false [.code (bodyOf Try.f12)] (envOf [0, 1] [.agg [.lit (.int .i64 a0.Number), .lit (.bool a0.Up), .lit (.int .i64 a0.Life), .lit (.int .i64 a0.Peer), .lit (.int .i64 a0.Since), .lit (.bool a0.Owes), .lit (.int .i64 a0.Send.Base), .inl true .item a0.Send.Items, .lit (.int .i64 a0.Take.Next), .inl true .held a0.Take.Held, .lit (.string a0.Take.Open), .inl true .str a0.Take.Ready], .agg [.lit (.int .i64 a1.Kind), .lit (.int .i64 a1.From), .lit (.int .i64 a1.Mine), .lit (.int .i64 a1.Yours), .lit (.int .i64 a1.Next), .lit (.int .i64 a1.Mask), .lit (.int .i64 a1.Seq), .lit (.bool a1.Last), .lit (.string a1.Part)]]) [] = spec_EndTake k a0 a1 := by kernel_rfl
theorem ok_spec_EndTake (k : Nat) : SummOk Try.prog cod 12 (S_spec_EndTake k) := by
  refine summ_of (T := T) Try.f12 (G_spec_EndTake) L_spec_EndTake false [.cell 4 45] 0 D_spec_EndTake mixed (fun k => Known.of tok eok codOk ?_) (fun k => QuietOk.of ?_) Try.func12 (by kernel_rfl) (by kernel_rfl) (by kernel_rfl) (by kernel_rfl) (by kernel_rfl) ?_ ?_ [] ?_
  · exact all_cons (ok_spec_ValidEnd k) (all_cons (ok_spec_l6Copy k) (all_cons (ok_spec_l2Ok k) (all_cons (ok_spec_SendWord k) (all_cons (ok_spec_TakePart k) (all_nil)))))
  · exact all_cons (fun h r => ⟨rfl, rfl⟩) (all_cons (fun h r => by cases h) (all_cons (fun h r => ⟨rfl, rfl⟩) (all_cons (fun h r => by cases h) (all_cons (fun h r => by cases h) (all_nil)))))
  · intro v os r h
    unfold D_spec_EndTake at h
    split at h <;> first | (cases h; rfl) | cases h
  · refine all_cons ?_ (all_nil)
    · refine ⟨fun vs os => ?_, by kernel_rfl, fun k vs os r h => ?_⟩
      · show C_spec_EndTake_11.fn 0 vs os = none
        unfold C_spec_EndTake_11; dsimp only; split <;> rfl
      · change C_spec_EndTake_11.fn (k + 1) vs os = some r at h
        unfold C_spec_EndTake_11 at h; dsimp only at h
        split at h
        · exact ⟨4000, (c_spec_EndTake_11 k _ _ _ _ _ _ _ _ _ _ _ _ _ _ _ _ _ _ _ _ _ _ _ _ _ _ _ _ _ _ _ _ _ _ _ _).trans h⟩
        · cases h
  · intro args os r h
    change (S_spec_EndTake k).run args os = some r at h
    unfold S_spec_EndTake at h; dsimp only at h
    split at h
    · exact ⟨Nat.le_of_ble_eq_true (by kernel_rfl), rfl, rfl, k, 4000, (e_spec_EndTake k ⟨_, _, _, _, _, _, ⟨_, _⟩, ⟨_, _, _, _⟩⟩ ⟨_, _, _, _, _, _, _, _, _⟩).trans h⟩
    · cases h
noncomputable def S_impl_in (k : Nat) : Summ K TyK where
  R := Bool
  modes := [.bo, .bo, .bo]
  run := fun args objs => match args, objs with
    | [.lit (.int .i64 v1), .lit (.int .i64 v2), .lit (.int .i64 v3)], [] => impl_in k v1 v2 v3
    | _, _ => none
  ret := fun r => (.lit (.bool r), [])
  quiet := true
noncomputable def D_impl_in (v : V) (os : Objs K TyK) : Option (Bool) :=
  match v, os with
  | .lit (.bool v1), [] => some v1
  | _, _ => none
noncomputable abbrev G_impl_in (k : Nat) : FuncId → Option (Summ K TyK) := lookT []
noncomputable abbrev L_impl_in : List (Nat × Cut K TyK (Bool)) := []
theorem e_impl_in (k : Nat) (a0 : Int) (a1 : Int) (a2 : Int) : run cod T (G_impl_in k) (lam L_impl_in k) (cutsOf L_impl_in) 0 (finish cod T false 0 [.tmp 6] D_impl_in) 4000 false [.code (bodyOf Try.f75)] (envOf [0, 1, 2] [.lit (.int .i64 a0), .lit (.int .i64 a1), .lit (.int .i64 a2)]) [] = impl_in k a0 a1 a2 := by kernel_rfl
theorem ok_impl_in (k : Nat) : SummOk Try.prog cod 75 (S_impl_in k) := by
  refine summ_of (T := T) Try.f75 (G_impl_in) L_impl_in false [.tmp 6] 0 D_impl_in mixed (fun k => Known.of tok eok codOk ?_) (fun k => QuietOk.of ?_) Try.func75 (by kernel_rfl) (by kernel_rfl) (by kernel_rfl) (by kernel_rfl) (by kernel_rfl) ?_ ?_ [] ?_
  · exact all_nil
  · exact all_nil
  · intro v os r h
    unfold D_impl_in at h
    split at h <;> first | (cases h; rfl) | cases h
  · refine all_nil
  · intro args os r h
    change (S_impl_in k).run args os = some r at h
    unfold S_impl_in at h; dsimp only at h
    split at h
    · exact ⟨Nat.le_of_ble_eq_true (by kernel_rfl), rfl, rfl, k, 4000, (e_impl_in k _ _ _).trans h⟩
    · cases h
noncomputable def S_impl_ValidSend (k : Nat) : Summ K TyK where
  R := Bool
  modes := [.bo]
  run := fun args objs => match args, objs with
    | [.agg [.lit (.int .i64 v1), .inl true .item v2]], [] => impl_ValidSend k (⟨v1, v2⟩ : DSend)
    | _, _ => none
  ret := fun r => (.lit (.bool r), [])
  quiet := true
noncomputable def D_impl_ValidSend (v : V) (os : Objs K TyK) : Option (Bool) :=
  match v, os with
  | .lit (.bool v1), [] => some v1
  | _, _ => none
noncomputable def C_impl_ValidSend_4 : Cut K TyK (Bool) where
  slots := [25, 26, 27]
  fn := fun k vs os => match vs, os with
    | [.inl true .item x0, .lit (.int .i64 x1), .lit (.int .i64 x2)], [] => impl_ValidSend_l4 k x0 x1 x2
    | _, _ => none
noncomputable abbrev G_impl_ValidSend (k : Nat) : FuncId → Option (Summ K TyK) := lookT [(75, S_impl_in k)]
noncomputable abbrev L_impl_ValidSend : List (Nat × Cut K TyK (Bool)) := [(4, C_impl_ValidSend_4)]
theorem c_impl_ValidSend_4 (k : Nat) (x0 : List DItem) (x1 : Int) (x2 : Int) : run cod T (G_impl_ValidSend k) (lam L_impl_ValidSend k) (cutsOf L_impl_ValidSend) 0 (finish cod T false 0 [.tmp 2] D_impl_ValidSend) 4000 true (todoAt 4 (bodyOf Try.f109)) (envOf [25, 26, 27] [.inl true .item x0, .lit (.int .i64 x1), .lit (.int .i64 x2)]) [] = impl_ValidSend_l4 (k + 1) x0 x1 x2 := by kernel_rfl
theorem e_impl_ValidSend (k : Nat) (a0 : DSend) : run cod T (G_impl_ValidSend k) (lam L_impl_ValidSend k) (cutsOf L_impl_ValidSend) 0 (finish cod T false 0 [.tmp 2] D_impl_ValidSend) 4000 false [.code (bodyOf Try.f109)] (envOf [0] [.agg [.lit (.int .i64 a0.Base), .inl true .item a0.Items]]) [] = impl_ValidSend k a0 := by kernel_rfl
theorem ok_impl_ValidSend (k : Nat) : SummOk Try.prog cod 109 (S_impl_ValidSend k) := by
  refine summ_of (T := T) Try.f109 (G_impl_ValidSend) L_impl_ValidSend false [.tmp 2] 0 D_impl_ValidSend mixed (fun k => Known.of tok eok codOk ?_) (fun k => QuietOk.of ?_) Try.func109 (by kernel_rfl) (by kernel_rfl) (by kernel_rfl) (by kernel_rfl) (by kernel_rfl) ?_ ?_ [] ?_
  · exact all_cons (ok_impl_in k) (all_nil)
  · exact all_cons (fun h r => ⟨rfl, rfl⟩) (all_nil)
  · intro v os r h
    unfold D_impl_ValidSend at h
    split at h <;> first | (cases h; rfl) | cases h
  · refine all_cons ?_ (all_nil)
    · refine ⟨fun vs os => ?_, by kernel_rfl, fun k vs os r h => ?_⟩
      · show C_impl_ValidSend_4.fn 0 vs os = none
        unfold C_impl_ValidSend_4; dsimp only; split <;> rfl
      · change C_impl_ValidSend_4.fn (k + 1) vs os = some r at h
        unfold C_impl_ValidSend_4 at h; dsimp only at h
        split at h
        · exact ⟨4000, (c_impl_ValidSend_4 k _ _ _).trans h⟩
        · cases h
  · intro args os r h
    change (S_impl_ValidSend k).run args os = some r at h
    unfold S_impl_ValidSend at h; dsimp only at h
    split at h
    · exact ⟨Nat.le_of_ble_eq_true (by kernel_rfl), rfl, rfl, k, 4000, (e_impl_ValidSend k ⟨_, _⟩).trans h⟩
    · cases h
noncomputable def S_impl_goes (k : Nat) : Summ K TyK where
  R := Bool
  modes := [.bo, .bo]
  run := fun args objs => match args, objs with
    | [.agg [.lit (.int .i64 v1), .inl true .held v2, .lit (.string v3), .inl true .str v4], .agg [.lit (.string v5), .lit (.bool v6)]], [] => impl_goes k (⟨v1, v2, v3, v4⟩ : DTake) (⟨v5, v6⟩ : DPart)
    | _, _ => none
  ret := fun r => (.lit (.bool r), [])
  quiet := true
noncomputable def D_impl_goes (v : V) (os : Objs K TyK) : Option (Bool) :=
  match v, os with
  | .lit (.bool v1), [] => some v1
  | _, _ => none
noncomputable abbrev G_impl_goes (k : Nat) : FuncId → Option (Summ K TyK) := lookT []
noncomputable abbrev L_impl_goes : List (Nat × Cut K TyK (Bool)) := []
theorem e_impl_goes (k : Nat) (a0 : DTake) (a1 : DPart) : run cod T (G_impl_goes k) (lam L_impl_goes k) (cutsOf L_impl_goes) 0 (finish cod T false 0 [.tmp 4] D_impl_goes) 4000 false [.code (bodyOf Try.f158)] (envOf [0, 1] [.agg [.lit (.int .i64 a0.Next), .inl true .held a0.Held, .lit (.string a0.Open), .inl true .str a0.Ready], .agg [.lit (.string a1.Text), .lit (.bool a1.Last)]]) [] = impl_goes k a0 a1 := by kernel_rfl
theorem ok_impl_goes (k : Nat) : SummOk Try.prog cod 158 (S_impl_goes k) := by
  refine summ_of (T := T) Try.f158 (G_impl_goes) L_impl_goes false [.tmp 4] 0 D_impl_goes mixed (fun k => Known.of tok eok codOk ?_) (fun k => QuietOk.of ?_) Try.func158 (by kernel_rfl) (by kernel_rfl) (by kernel_rfl) (by kernel_rfl) (by kernel_rfl) ?_ ?_ [] ?_
  · exact all_nil
  · exact all_nil
  · intro v os r h
    unfold D_impl_goes at h
    split at h <;> first | (cases h; rfl) | cases h
  · refine all_nil
  · intro args os r h
    change (S_impl_goes k).run args os = some r at h
    unfold S_impl_goes at h; dsimp only at h
    split at h
    · exact ⟨Nat.le_of_ble_eq_true (by kernel_rfl), rfl, rfl, k, 4000, (e_impl_goes k ⟨_, _, _, _⟩ ⟨_, _⟩).trans h⟩
    · cases h
noncomputable def S_impl_ValidTake (k : Nat) : Summ K TyK where
  R := Bool
  modes := [.bo]
  run := fun args objs => match args, objs with
    | [.agg [.lit (.int .i64 v1), .inl true .held v2, .lit (.string v3), .inl true .str v4]], [] => impl_ValidTake k (⟨v1, v2, v3, v4⟩ : DTake)
    | _, _ => none
  ret := fun r => (.lit (.bool r), [])
  quiet := true
noncomputable def D_impl_ValidTake (v : V) (os : Objs K TyK) : Option (Bool) :=
  match v, os with
  | .lit (.bool v1), [] => some v1
  | _, _ => none
noncomputable def C_impl_ValidTake_4 : Cut K TyK (Bool) where
  slots := [1, 30, 31, 32]
  fn := fun k vs os => match vs, os with
    | [.ref 0 0, .inl true .held x0, .lit (.int .i64 x1), .lit (.int .i64 x2)], [.box [.lit (.int .i64 x3), .inl true .held x4, .lit (.string x5), .inl true .str x6]] => impl_ValidTake_l4 k x0 x1 x2 x3 x4 x5 x6
    | _, _ => none
noncomputable def C_impl_ValidTake_12 : Cut K TyK (Bool) where
  slots := [88, 89, 90]
  fn := fun k vs os => match vs, os with
    | [.inl true .str x0, .lit (.int .i64 x1), .lit (.int .i64 x2)], [] => impl_ValidTake_l12 k x0 x1 x2
    | _, _ => none
noncomputable abbrev G_impl_ValidTake (k : Nat) : FuncId → Option (Summ K TyK) := lookT [(75, S_impl_in k), (158, S_impl_goes k)]
noncomputable abbrev L_impl_ValidTake : List (Nat × Cut K TyK (Bool)) := [(4, C_impl_ValidTake_4), (12, C_impl_ValidTake_12)]
theorem c_impl_ValidTake_4 (k : Nat) (x0 : List DHeld) (x1 : Int) (x2 : Int) (x3 : Int) (x4 : List DHeld) (x5 : ByteArray) (x6 : List ByteArray) : run cod T (G_impl_ValidTake k) (lam L_impl_ValidTake k) (cutsOf L_impl_ValidTake) 0 (finish cod T false 0 [.tmp 2] D_impl_ValidTake) 4000 true (todoAt 4 (bodyOf Try.f110)) (envOf [1, 30, 31, 32] [.ref 0 0, .inl true .held x0, .lit (.int .i64 x1), .lit (.int .i64 x2)]) [.box [.lit (.int .i64 x3), .inl true .held x4, .lit (.string x5), .inl true .str x6]] = impl_ValidTake_l4 (k + 1) x0 x1 x2 x3 x4 x5 x6 := by kernel_rfl
theorem c_impl_ValidTake_12 (k : Nat) (x0 : List ByteArray) (x1 : Int) (x2 : Int) : run cod T (G_impl_ValidTake k) (lam L_impl_ValidTake k) (cutsOf L_impl_ValidTake) 0 (finish cod T false 0 [.tmp 2] D_impl_ValidTake) 4000 true (todoAt 12 (bodyOf Try.f110)) (envOf [88, 89, 90] [.inl true .str x0, .lit (.int .i64 x1), .lit (.int .i64 x2)]) [] = impl_ValidTake_l12 (k + 1) x0 x1 x2 := by kernel_rfl
theorem e_impl_ValidTake (k : Nat) (a0 : DTake) : run cod T (G_impl_ValidTake k) (lam L_impl_ValidTake k) (cutsOf L_impl_ValidTake) 0 (finish cod T false 0 [.tmp 2] D_impl_ValidTake) 4000 false [.code (bodyOf Try.f110)] (envOf [0] [.agg [.lit (.int .i64 a0.Next), .inl true .held a0.Held, .lit (.string a0.Open), .inl true .str a0.Ready]]) [] = impl_ValidTake k a0 := by kernel_rfl
theorem ok_impl_ValidTake (k : Nat) : SummOk Try.prog cod 110 (S_impl_ValidTake k) := by
  refine summ_of (T := T) Try.f110 (G_impl_ValidTake) L_impl_ValidTake false [.tmp 2] 0 D_impl_ValidTake mixed (fun k => Known.of tok eok codOk ?_) (fun k => QuietOk.of ?_) Try.func110 (by kernel_rfl) (by kernel_rfl) (by kernel_rfl) (by kernel_rfl) (by kernel_rfl) ?_ ?_ [] ?_
  · exact all_cons (ok_impl_in k) (all_cons (ok_impl_goes k) (all_nil))
  · exact all_cons (fun h r => ⟨rfl, rfl⟩) (all_cons (fun h r => ⟨rfl, rfl⟩) (all_nil))
  · intro v os r h
    unfold D_impl_ValidTake at h
    split at h <;> first | (cases h; rfl) | cases h
  · refine all_cons ?_ (all_cons ?_ (all_nil))
    · refine ⟨fun vs os => ?_, by kernel_rfl, fun k vs os r h => ?_⟩
      · show C_impl_ValidTake_4.fn 0 vs os = none
        unfold C_impl_ValidTake_4; dsimp only; split <;> rfl
      · change C_impl_ValidTake_4.fn (k + 1) vs os = some r at h
        unfold C_impl_ValidTake_4 at h; dsimp only at h
        split at h
        · exact ⟨4000, (c_impl_ValidTake_4 k _ _ _ _ _ _ _).trans h⟩
        · cases h
    · refine ⟨fun vs os => ?_, by kernel_rfl, fun k vs os r h => ?_⟩
      · show C_impl_ValidTake_12.fn 0 vs os = none
        unfold C_impl_ValidTake_12; dsimp only; split <;> rfl
      · change C_impl_ValidTake_12.fn (k + 1) vs os = some r at h
        unfold C_impl_ValidTake_12 at h; dsimp only at h
        split at h
        · exact ⟨4000, (c_impl_ValidTake_12 k _ _ _).trans h⟩
        · cases h
  · intro args os r h
    change (S_impl_ValidTake k).run args os = some r at h
    unfold S_impl_ValidTake at h; dsimp only at h
    split at h
    · exact ⟨Nat.le_of_ble_eq_true (by kernel_rfl), rfl, rfl, k, 4000, (e_impl_ValidTake k ⟨_, _, _, _⟩).trans h⟩
    · cases h
noncomputable def S_impl_noSend (k : Nat) : Summ K TyK where
  R := Bool
  modes := [.bo]
  run := fun args objs => match args, objs with
    | [.agg [.lit (.int .i64 v1), .inl true .item v2]], [] => impl_noSend k (⟨v1, v2⟩ : DSend)
    | _, _ => none
  ret := fun r => (.lit (.bool r), [])
  quiet := true
noncomputable def D_impl_noSend (v : V) (os : Objs K TyK) : Option (Bool) :=
  match v, os with
  | .lit (.bool v1), [] => some v1
  | _, _ => none
noncomputable abbrev G_impl_noSend (k : Nat) : FuncId → Option (Summ K TyK) := lookT []
noncomputable abbrev L_impl_noSend : List (Nat × Cut K TyK (Bool)) := []
theorem e_impl_noSend (k : Nat) (a0 : DSend) : run cod T (G_impl_noSend k) (lam L_impl_noSend k) (cutsOf L_impl_noSend) 0 (finish cod T false 0 [.tmp 2] D_impl_noSend) 4000 false [.code (bodyOf Try.f111)] (envOf [0] [.agg [.lit (.int .i64 a0.Base), .inl true .item a0.Items]]) [] = impl_noSend k a0 := by kernel_rfl
theorem ok_impl_noSend (k : Nat) : SummOk Try.prog cod 111 (S_impl_noSend k) := by
  refine summ_of (T := T) Try.f111 (G_impl_noSend) L_impl_noSend false [.tmp 2] 0 D_impl_noSend mixed (fun k => Known.of tok eok codOk ?_) (fun k => QuietOk.of ?_) Try.func111 (by kernel_rfl) (by kernel_rfl) (by kernel_rfl) (by kernel_rfl) (by kernel_rfl) ?_ ?_ [] ?_
  · exact all_nil
  · exact all_nil
  · intro v os r h
    unfold D_impl_noSend at h
    split at h <;> first | (cases h; rfl) | cases h
  · refine all_nil
  · intro args os r h
    change (S_impl_noSend k).run args os = some r at h
    unfold S_impl_noSend at h; dsimp only at h
    split at h
    · exact ⟨Nat.le_of_ble_eq_true (by kernel_rfl), rfl, rfl, k, 4000, (e_impl_noSend k ⟨_, _⟩).trans h⟩
    · cases h
noncomputable def S_impl_noTake (k : Nat) : Summ K TyK where
  R := Bool
  modes := [.bo]
  run := fun args objs => match args, objs with
    | [.agg [.lit (.int .i64 v1), .inl true .held v2, .lit (.string v3), .inl true .str v4]], [] => impl_noTake k (⟨v1, v2, v3, v4⟩ : DTake)
    | _, _ => none
  ret := fun r => (.lit (.bool r), [])
  quiet := true
noncomputable def D_impl_noTake (v : V) (os : Objs K TyK) : Option (Bool) :=
  match v, os with
  | .lit (.bool v1), [] => some v1
  | _, _ => none
noncomputable abbrev G_impl_noTake (k : Nat) : FuncId → Option (Summ K TyK) := lookT []
noncomputable abbrev L_impl_noTake : List (Nat × Cut K TyK (Bool)) := []
theorem e_impl_noTake (k : Nat) (a0 : DTake) : run cod T (G_impl_noTake k) (lam L_impl_noTake k) (cutsOf L_impl_noTake) 0 (finish cod T false 0 [.tmp 2] D_impl_noTake) 4000 false [.code (bodyOf Try.f112)] (envOf [0] [.agg [.lit (.int .i64 a0.Next), .inl true .held a0.Held, .lit (.string a0.Open), .inl true .str a0.Ready]]) [] = impl_noTake k a0 := by kernel_rfl
theorem ok_impl_noTake (k : Nat) : SummOk Try.prog cod 112 (S_impl_noTake k) := by
  refine summ_of (T := T) Try.f112 (G_impl_noTake) L_impl_noTake false [.tmp 2] 0 D_impl_noTake mixed (fun k => Known.of tok eok codOk ?_) (fun k => QuietOk.of ?_) Try.func112 (by kernel_rfl) (by kernel_rfl) (by kernel_rfl) (by kernel_rfl) (by kernel_rfl) ?_ ?_ [] ?_
  · exact all_nil
  · exact all_nil
  · intro v os r h
    unfold D_impl_noTake at h
    split at h <;> first | (cases h; rfl) | cases h
  · refine all_nil
  · intro args os r h
    change (S_impl_noTake k).run args os = some r at h
    unfold S_impl_noTake at h; dsimp only at h
    split at h
    · exact ⟨Nat.le_of_ble_eq_true (by kernel_rfl), rfl, rfl, k, 4000, (e_impl_noTake k ⟨_, _, _, _⟩).trans h⟩
    · cases h
noncomputable def S_impl_ValidEnd (k : Nat) : Summ K TyK where
  R := Bool
  modes := [.bo]
  run := fun args objs => match args, objs with
    | [.agg [.lit (.int .i64 v1), .lit (.bool v2), .lit (.int .i64 v3), .lit (.int .i64 v4), .lit (.int .i64 v5), .lit (.bool v6), .lit (.int .i64 v7), .inl true .item v8, .lit (.int .i64 v9), .inl true .held v10, .lit (.string v11), .inl true .str v12]], [] => impl_ValidEnd k (⟨v1, v2, v3, v4, v5, v6, (⟨v7, v8⟩ : DSend), (⟨v9, v10, v11, v12⟩ : DTake)⟩ : DEnd)
    | _, _ => none
  ret := fun r => (.lit (.bool r), [])
  quiet := true
noncomputable def D_impl_ValidEnd (v : V) (os : Objs K TyK) : Option (Bool) :=
  match v, os with
  | .lit (.bool v1), [] => some v1
  | _, _ => none
noncomputable abbrev G_impl_ValidEnd (k : Nat) : FuncId → Option (Summ K TyK) := lookT [(75, S_impl_in k), (109, S_impl_ValidSend k), (110, S_impl_ValidTake k), (111, S_impl_noSend k), (112, S_impl_noTake k)]
noncomputable abbrev L_impl_ValidEnd : List (Nat × Cut K TyK (Bool)) := []
theorem e_impl_ValidEnd (k : Nat) (a0 : DEnd) : run cod T (G_impl_ValidEnd k) (lam L_impl_ValidEnd k) (cutsOf L_impl_ValidEnd) 0 (finish cod T false 0 [.tmp 2] D_impl_ValidEnd) 4000 false [.code (bodyOf Try.f46)] (envOf [0] [.agg [.lit (.int .i64 a0.Number), .lit (.bool a0.Up), .lit (.int .i64 a0.Life), .lit (.int .i64 a0.Peer), .lit (.int .i64 a0.Since), .lit (.bool a0.Owes), .lit (.int .i64 a0.Send.Base), .inl true .item a0.Send.Items, .lit (.int .i64 a0.Take.Next), .inl true .held a0.Take.Held, .lit (.string a0.Take.Open), .inl true .str a0.Take.Ready]]) [] = impl_ValidEnd k a0 := by kernel_rfl
theorem ok_impl_ValidEnd (k : Nat) : SummOk Try.prog cod 46 (S_impl_ValidEnd k) := by
  refine summ_of (T := T) Try.f46 (G_impl_ValidEnd) L_impl_ValidEnd false [.tmp 2] 0 D_impl_ValidEnd mixed (fun k => Known.of tok eok codOk ?_) (fun k => QuietOk.of ?_) Try.func46 (by kernel_rfl) (by kernel_rfl) (by kernel_rfl) (by kernel_rfl) (by kernel_rfl) ?_ ?_ [] ?_
  · exact all_cons (ok_impl_in k) (all_cons (ok_impl_ValidSend k) (all_cons (ok_impl_ValidTake k) (all_cons (ok_impl_noSend k) (all_cons (ok_impl_noTake k) (all_nil)))))
  · exact all_cons (fun h r => ⟨rfl, rfl⟩) (all_cons (fun h r => ⟨rfl, rfl⟩) (all_cons (fun h r => ⟨rfl, rfl⟩) (all_cons (fun h r => ⟨rfl, rfl⟩) (all_cons (fun h r => ⟨rfl, rfl⟩) (all_nil)))))
  · intro v os r h
    unfold D_impl_ValidEnd at h
    split at h <;> first | (cases h; rfl) | cases h
  · refine all_nil
  · intro args os r h
    change (S_impl_ValidEnd k).run args os = some r at h
    unfold S_impl_ValidEnd at h; dsimp only at h
    split at h
    · exact ⟨Nat.le_of_ble_eq_true (by kernel_rfl), rfl, rfl, k, 4000, (e_impl_ValidEnd k ⟨_, _, _, _, _, _, ⟨_, _⟩, ⟨_, _, _, _⟩⟩).trans h⟩
    · cases h
noncomputable def S_impl_copySend (k : Nat) : Summ K TyK where
  R := DSend
  modes := [.bo]
  run := fun args objs => match args, objs with
    | [.agg [.lit (.int .i64 v1), .inl true .item v2]], [] => impl_copySend k (⟨v1, v2⟩ : DSend)
    | _, _ => none
  ret := fun r => (.agg [.lit (.int .i64 r.Base), .own 0], [.sl .item r.Items])
  quiet := false
noncomputable def D_impl_copySend (v : V) (os : Objs K TyK) : Option (DSend) :=
  match v, os with
  | .agg [.lit (.int .i64 v1), .own 0], [.sl .item v2] => some (⟨v1, v2⟩ : DSend)
  | _, _ => none
noncomputable abbrev G_impl_copySend (k : Nat) : FuncId → Option (Summ K TyK) := lookT []
noncomputable abbrev L_impl_copySend : List (Nat × Cut K TyK (DSend)) := []
theorem e_impl_copySend (k : Nat) (a0 : DSend) : run cod T (G_impl_copySend k) (lam L_impl_copySend k) (cutsOf L_impl_copySend) 0 (finish cod T false 0 [.cell 2 37] D_impl_copySend) 4000 false [.code (bodyOf Try.f126)] (envOf [0] [.agg [.lit (.int .i64 a0.Base), .inl true .item a0.Items]]) [] = impl_copySend k a0 := by kernel_rfl
theorem ok_impl_copySend (k : Nat) : SummOk Try.prog cod 126 (S_impl_copySend k) := by
  refine summ_of (T := T) Try.f126 (G_impl_copySend) L_impl_copySend false [.cell 2 37] 0 D_impl_copySend mixed (fun k => Known.of tok eok codOk ?_) (fun k => QuietOk.of ?_) Try.func126 (by kernel_rfl) (by kernel_rfl) (by kernel_rfl) (by kernel_rfl) (by kernel_rfl) ?_ ?_ [] ?_
  · exact all_nil
  · exact all_nil
  · intro v os r h
    unfold D_impl_copySend at h
    split at h <;> first | (cases h; rfl) | cases h
  · refine all_nil
  · intro args os r h
    change (S_impl_copySend k).run args os = some r at h
    unfold S_impl_copySend at h; dsimp only at h
    split at h
    · exact ⟨Nat.le_of_ble_eq_true (by kernel_rfl), rfl, rfl, k, 4000, (e_impl_copySend k ⟨_, _⟩).trans h⟩
    · cases h
noncomputable def S_impl_copyTake (k : Nat) : Summ K TyK where
  R := DTake
  modes := [.bo]
  run := fun args objs => match args, objs with
    | [.agg [.lit (.int .i64 v1), .inl true .held v2, .lit (.string v3), .inl true .str v4]], [] => impl_copyTake k (⟨v1, v2, v3, v4⟩ : DTake)
    | _, _ => none
  ret := fun r => (.agg [.lit (.int .i64 r.Next), .own 0, .lit (.string r.Open), .own 1], [.sl .held r.Held, .sl .str r.Ready])
  quiet := false
noncomputable def D_impl_copyTake (v : V) (os : Objs K TyK) : Option (DTake) :=
  match v, os with
  | .agg [.lit (.int .i64 v1), .own 0, .lit (.string v2), .own 1], [.sl .held v3, .sl .str v4] => some (⟨v1, v3, v2, v4⟩ : DTake)
  | _, _ => none
noncomputable abbrev G_impl_copyTake (k : Nat) : FuncId → Option (Summ K TyK) := lookT []
noncomputable abbrev L_impl_copyTake : List (Nat × Cut K TyK (DTake)) := []
theorem e_impl_copyTake (k : Nat) (a0 : DTake) : run cod T (G_impl_copyTake k) (lam L_impl_copyTake k) (cutsOf L_impl_copyTake) 0 (finish cod T false 0 [.cell 2 40] D_impl_copyTake) 4000 false [.code (bodyOf Try.f127)] (envOf [0] [.agg [.lit (.int .i64 a0.Next), .inl true .held a0.Held, .lit (.string a0.Open), .inl true .str a0.Ready]]) [] = impl_copyTake k a0 := by kernel_rfl
theorem ok_impl_copyTake (k : Nat) : SummOk Try.prog cod 127 (S_impl_copyTake k) := by
  refine summ_of (T := T) Try.f127 (G_impl_copyTake) L_impl_copyTake false [.cell 2 40] 0 D_impl_copyTake mixed (fun k => Known.of tok eok codOk ?_) (fun k => QuietOk.of ?_) Try.func127 (by kernel_rfl) (by kernel_rfl) (by kernel_rfl) (by kernel_rfl) (by kernel_rfl) ?_ ?_ [] ?_
  · exact all_nil
  · exact all_nil
  · intro v os r h
    unfold D_impl_copyTake at h
    split at h <;> first | (cases h; rfl) | cases h
  · refine all_nil
  · intro args os r h
    change (S_impl_copyTake k).run args os = some r at h
    unfold S_impl_copyTake at h; dsimp only at h
    split at h
    · exact ⟨Nat.le_of_ble_eq_true (by kernel_rfl), rfl, rfl, k, 4000, (e_impl_copyTake k ⟨_, _, _, _⟩).trans h⟩
    · cases h
noncomputable def S_impl_copyEnd (k : Nat) : Summ K TyK where
  R := DEnd
  modes := [.bo]
  run := fun args objs => match args, objs with
    | [.agg [.lit (.int .i64 v1), .lit (.bool v2), .lit (.int .i64 v3), .lit (.int .i64 v4), .lit (.int .i64 v5), .lit (.bool v6), .lit (.int .i64 v7), .inl true .item v8, .lit (.int .i64 v9), .inl true .held v10, .lit (.string v11), .inl true .str v12]], [] => impl_copyEnd k (⟨v1, v2, v3, v4, v5, v6, (⟨v7, v8⟩ : DSend), (⟨v9, v10, v11, v12⟩ : DTake)⟩ : DEnd)
    | _, _ => none
  ret := fun r => (.agg [.lit (.int .i64 r.Number), .lit (.bool r.Up), .lit (.int .i64 r.Life), .lit (.int .i64 r.Peer), .lit (.int .i64 r.Since), .lit (.bool r.Owes), .lit (.int .i64 r.Send.Base), .own 0, .lit (.int .i64 r.Take.Next), .own 1, .lit (.string r.Take.Open), .own 2], [.sl .item r.Send.Items, .sl .held r.Take.Held, .sl .str r.Take.Ready])
  quiet := false
noncomputable def D_impl_copyEnd (v : V) (os : Objs K TyK) : Option (DEnd) :=
  match v, os with
  | .agg [.lit (.int .i64 v1), .lit (.bool v2), .lit (.int .i64 v3), .lit (.int .i64 v4), .lit (.int .i64 v5), .lit (.bool v6), .lit (.int .i64 v7), .own 0, .lit (.int .i64 v8), .own 1, .lit (.string v9), .own 2], [.sl .item v10, .sl .held v11, .sl .str v12] => some (⟨v1, v2, v3, v4, v5, v6, (⟨v7, v10⟩ : DSend), (⟨v8, v11, v9, v12⟩ : DTake)⟩ : DEnd)
  | _, _ => none
noncomputable abbrev G_impl_copyEnd (k : Nat) : FuncId → Option (Summ K TyK) := lookT [(126, S_impl_copySend k), (127, S_impl_copyTake k)]
noncomputable abbrev L_impl_copyEnd : List (Nat × Cut K TyK (DEnd)) := []
theorem e_impl_copyEnd (k : Nat) (a0 : DEnd) : run cod T (G_impl_copyEnd k) (lam L_impl_copyEnd k) (cutsOf L_impl_copyEnd) 0 (finish cod T false 0 [.cell 2 42] D_impl_copyEnd) 4000 false [.code (bodyOf Try.f58)] (envOf [0] [.agg [.lit (.int .i64 a0.Number), .lit (.bool a0.Up), .lit (.int .i64 a0.Life), .lit (.int .i64 a0.Peer), .lit (.int .i64 a0.Since), .lit (.bool a0.Owes), .lit (.int .i64 a0.Send.Base), .inl true .item a0.Send.Items, .lit (.int .i64 a0.Take.Next), .inl true .held a0.Take.Held, .lit (.string a0.Take.Open), .inl true .str a0.Take.Ready]]) [] = impl_copyEnd k a0 := by kernel_rfl
theorem ok_impl_copyEnd (k : Nat) : SummOk Try.prog cod 58 (S_impl_copyEnd k) := by
  refine summ_of (T := T) Try.f58 (G_impl_copyEnd) L_impl_copyEnd false [.cell 2 42] 0 D_impl_copyEnd mixed (fun k => Known.of tok eok codOk ?_) (fun k => QuietOk.of ?_) Try.func58 (by kernel_rfl) (by kernel_rfl) (by kernel_rfl) (by kernel_rfl) (by kernel_rfl) ?_ ?_ [] ?_
  · exact all_cons (ok_impl_copySend k) (all_cons (ok_impl_copyTake k) (all_nil))
  · exact all_cons (fun h r => by cases h) (all_cons (fun h r => by cases h) (all_nil))
  · intro v os r h
    unfold D_impl_copyEnd at h
    split at h <;> first | (cases h; rfl) | cases h
  · refine all_nil
  · intro args os r h
    change (S_impl_copyEnd k).run args os = some r at h
    unfold S_impl_copyEnd at h; dsimp only at h
    split at h
    · exact ⟨Nat.le_of_ble_eq_true (by kernel_rfl), rfl, rfl, k, 4000, (e_impl_copyEnd k ⟨_, _, _, _, _, _, ⟨_, _⟩, ⟨_, _, _, _⟩⟩).trans h⟩
    · cases h
noncomputable def S_impl_validPacket (k : Nat) : Summ K TyK where
  R := Bool
  modes := [.bo]
  run := fun args objs => match args, objs with
    | [.agg [.lit (.int .i64 v1), .lit (.int .i64 v2), .lit (.int .i64 v3), .lit (.int .i64 v4), .lit (.int .i64 v5), .lit (.int .i64 v6), .lit (.int .i64 v7), .lit (.bool v8), .lit (.string v9)]], [] => impl_validPacket k (⟨v1, v2, v3, v4, v5, v6, v7, v8, v9⟩ : DPacket)
    | _, _ => none
  ret := fun r => (.lit (.bool r), [])
  quiet := true
noncomputable def D_impl_validPacket (v : V) (os : Objs K TyK) : Option (Bool) :=
  match v, os with
  | .lit (.bool v1), [] => some v1
  | _, _ => none
noncomputable abbrev G_impl_validPacket (k : Nat) : FuncId → Option (Summ K TyK) := lookT [(75, S_impl_in k)]
noncomputable abbrev L_impl_validPacket : List (Nat × Cut K TyK (Bool)) := []
theorem e_impl_validPacket (k : Nat) (a0 : DPacket) : run cod T (G_impl_validPacket k) (lam L_impl_validPacket k) (cutsOf L_impl_validPacket) 0 (finish cod T false 0 [.tmp 2] D_impl_validPacket) 4000 false [.code (bodyOf Try.f59)] (envOf [0] [.agg [.lit (.int .i64 a0.Kind), .lit (.int .i64 a0.From), .lit (.int .i64 a0.Mine), .lit (.int .i64 a0.Yours), .lit (.int .i64 a0.Next), .lit (.int .i64 a0.Mask), .lit (.int .i64 a0.Seq), .lit (.bool a0.Last), .lit (.string a0.Part)]]) [] = impl_validPacket k a0 := by kernel_rfl
theorem ok_impl_validPacket (k : Nat) : SummOk Try.prog cod 59 (S_impl_validPacket k) := by
  refine summ_of (T := T) Try.f59 (G_impl_validPacket) L_impl_validPacket false [.tmp 2] 0 D_impl_validPacket mixed (fun k => Known.of tok eok codOk ?_) (fun k => QuietOk.of ?_) Try.func59 (by kernel_rfl) (by kernel_rfl) (by kernel_rfl) (by kernel_rfl) (by kernel_rfl) ?_ ?_ [] ?_
  · exact all_cons (ok_impl_in k) (all_nil)
  · exact all_cons (fun h r => ⟨rfl, rfl⟩) (all_nil)
  · intro v os r h
    unfold D_impl_validPacket at h
    split at h <;> first | (cases h; rfl) | cases h
  · refine all_nil
  · intro args os r h
    change (S_impl_validPacket k).run args os = some r at h
    unfold S_impl_validPacket at h; dsimp only at h
    split at h
    · exact ⟨Nat.le_of_ble_eq_true (by kernel_rfl), rfl, rfl, k, 4000, (e_impl_validPacket k ⟨_, _, _, _, _, _, _, _, _⟩).trans h⟩
    · cases h
noncomputable def S_impl_SendWord (k : Nat) : Summ K TyK where
  R := DSend
  modes := [.bo, .bo, .bo]
  run := fun args objs => match args, objs with
    | [.agg [.lit (.int .i64 v1), .inl true .item v2], .lit (.int .i64 v3), .lit (.int .i64 v4)], [] => impl_SendWord k (⟨v1, v2⟩ : DSend) v3 v4
    | _, _ => none
  ret := fun r => (.agg [.lit (.int .i64 r.Base), .own 0], [.sl .item r.Items])
  quiet := false
noncomputable def D_impl_SendWord (v : V) (os : Objs K TyK) : Option (DSend) :=
  match v, os with
  | .agg [.lit (.int .i64 v1), .own 0], [.sl .item v2] => some (⟨v1, v2⟩ : DSend)
  | _, _ => none
noncomputable def C_impl_SendWord_5 : Cut K TyK (DSend) where
  slots := [1, 2, 6, 7, 8]
  fn := fun k vs os => match vs, os with
    | [.lit (.int .i64 x0), .lit (.int .i64 x1), .ref 0 0, .ref 1 0, .lit (.int .i64 x2)], [.box [.lit (.int .i64 x3), .own 2], .box [.lit (.int .i64 x4), .own 3], .sl .item x5, .sl .item x6] => impl_SendWord_l5 k x0 x1 x2 x3 x4 x5 x6
    | _, _ => none
noncomputable def C_impl_SendWord_12 : Cut K TyK (DSend) where
  slots := [2, 6, 7, 9]
  fn := fun k vs os => match vs, os with
    | [.lit (.int .i64 x0), .ref 0 0, .ref 1 0, .lit (.int .i64 x1)], [.box [.lit (.int .i64 x2), .own 2], .box [.lit (.int .i64 x3), .own 3], .sl .item x4, .sl .item x5] => impl_SendWord_l12 k x0 x1 x2 x3 x4 x5
    | _, _ => none
noncomputable def C_impl_SendWord_13 : Cut K TyK (DSend) where
  slots := [2, 6, 7, 9]
  fn := fun k vs os => match vs, os with
    | [.lit (.int .i64 x0), .ref 0 0, .ref 1 0, .lit (.int .i64 x1)], [.box [.lit (.int .i64 x2), .own 2], .box [.lit (.int .i64 x3), .own 3], .sl .item x4, .sl .item x5] => impl_SendWord_l13 k x0 x1 x2 x3 x4 x5
    | _, _ => none
noncomputable abbrev G_impl_SendWord (k : Nat) : FuncId → Option (Summ K TyK) := lookT [(109, S_impl_ValidSend k), (126, S_impl_copySend k), (75, S_impl_in k)]
noncomputable abbrev L_impl_SendWord : List (Nat × Cut K TyK (DSend)) := [(5, C_impl_SendWord_5), (12, C_impl_SendWord_12), (13, C_impl_SendWord_13)]
theorem c_impl_SendWord_5 (k : Nat) (x0 : Int) (x1 : Int) (x2 : Int) (x3 : Int) (x4 : Int) (x5 : List DItem) (x6 : List DItem) : run cod T (G_impl_SendWord k) (lam L_impl_SendWord k) (cutsOf L_impl_SendWord) 0 (finish cod T false 0 [.cell 6 37] D_impl_SendWord) 4000 true (todoAt 5 (bodyOf Try.f60)) (envOf [1, 2, 6, 7, 8] [.lit (.int .i64 x0), .lit (.int .i64 x1), .ref 0 0, .ref 1 0, .lit (.int .i64 x2)]) [.box [.lit (.int .i64 x3), .own 2], .box [.lit (.int .i64 x4), .own 3], .sl .item x5, .sl .item x6] = impl_SendWord_l5 (k + 1) x0 x1 x2 x3 x4 x5 x6 := by kernel_rfl
theorem c_impl_SendWord_12 (k : Nat) (x0 : Int) (x1 : Int) (x2 : Int) (x3 : Int) (x4 : List DItem) (x5 : List DItem) : run cod T (G_impl_SendWord k) (lam L_impl_SendWord k) (cutsOf L_impl_SendWord) 0 (finish cod T false 0 [.cell 6 37] D_impl_SendWord) 4000 true (todoAt 12 (bodyOf Try.f60)) (envOf [2, 6, 7, 9] [.lit (.int .i64 x0), .ref 0 0, .ref 1 0, .lit (.int .i64 x1)]) [.box [.lit (.int .i64 x2), .own 2], .box [.lit (.int .i64 x3), .own 3], .sl .item x4, .sl .item x5] = impl_SendWord_l12 (k + 1) x0 x1 x2 x3 x4 x5 := by kernel_rfl
theorem c_impl_SendWord_13 (k : Nat) (x0 : Int) (x1 : Int) (x2 : Int) (x3 : Int) (x4 : List DItem) (x5 : List DItem) : run cod T (G_impl_SendWord k) (lam L_impl_SendWord k) (cutsOf L_impl_SendWord) 0 (finish cod T false 0 [.cell 6 37] D_impl_SendWord) 4000 true (todoAt 13 (bodyOf Try.f60)) (envOf [2, 6, 7, 9] [.lit (.int .i64 x0), .ref 0 0, .ref 1 0, .lit (.int .i64 x1)]) [.box [.lit (.int .i64 x2), .own 2], .box [.lit (.int .i64 x3), .own 3], .sl .item x4, .sl .item x5] = impl_SendWord_l13 (k + 1) x0 x1 x2 x3 x4 x5 := by kernel_rfl
theorem e_impl_SendWord (k : Nat) (a0 : DSend) (a1 : Int) (a2 : Int) : run cod T (G_impl_SendWord k) (lam L_impl_SendWord k) (cutsOf L_impl_SendWord) 0 (finish cod T false 0 [.cell 6 37] D_impl_SendWord) 4000 false [.code (bodyOf Try.f60)] (envOf [0, 1, 2] [.agg [.lit (.int .i64 a0.Base), .inl true .item a0.Items], .lit (.int .i64 a1), .lit (.int .i64 a2)]) [] = impl_SendWord k a0 a1 a2 := by kernel_rfl
theorem ok_impl_SendWord (k : Nat) : SummOk Try.prog cod 60 (S_impl_SendWord k) := by
  refine summ_of (T := T) Try.f60 (G_impl_SendWord) L_impl_SendWord false [.cell 6 37] 0 D_impl_SendWord mixed (fun k => Known.of tok eok codOk ?_) (fun k => QuietOk.of ?_) Try.func60 (by kernel_rfl) (by kernel_rfl) (by kernel_rfl) (by kernel_rfl) (by kernel_rfl) ?_ ?_ [] ?_
  · exact all_cons (ok_impl_ValidSend k) (all_cons (ok_impl_copySend k) (all_cons (ok_impl_in k) (all_nil)))
  · exact all_cons (fun h r => ⟨rfl, rfl⟩) (all_cons (fun h r => by cases h) (all_cons (fun h r => ⟨rfl, rfl⟩) (all_nil)))
  · intro v os r h
    unfold D_impl_SendWord at h
    split at h <;> first | (cases h; rfl) | cases h
  · refine all_cons ?_ (all_cons ?_ (all_cons ?_ (all_nil)))
    · refine ⟨fun vs os => ?_, by kernel_rfl, fun k vs os r h => ?_⟩
      · show C_impl_SendWord_5.fn 0 vs os = none
        unfold C_impl_SendWord_5; dsimp only; split <;> rfl
      · change C_impl_SendWord_5.fn (k + 1) vs os = some r at h
        unfold C_impl_SendWord_5 at h; dsimp only at h
        split at h
        · exact ⟨4000, (c_impl_SendWord_5 k _ _ _ _ _ _ _).trans h⟩
        · cases h
    · refine ⟨fun vs os => ?_, by kernel_rfl, fun k vs os r h => ?_⟩
      · show C_impl_SendWord_12.fn 0 vs os = none
        unfold C_impl_SendWord_12; dsimp only; split <;> rfl
      · change C_impl_SendWord_12.fn (k + 1) vs os = some r at h
        unfold C_impl_SendWord_12 at h; dsimp only at h
        split at h
        · exact ⟨4000, (c_impl_SendWord_12 k _ _ _ _ _ _).trans h⟩
        · cases h
    · refine ⟨fun vs os => ?_, by kernel_rfl, fun k vs os r h => ?_⟩
      · show C_impl_SendWord_13.fn 0 vs os = none
        unfold C_impl_SendWord_13; dsimp only; split <;> rfl
      · change C_impl_SendWord_13.fn (k + 1) vs os = some r at h
        unfold C_impl_SendWord_13 at h; dsimp only at h
        split at h
        · exact ⟨4000, (c_impl_SendWord_13 k _ _ _ _ _ _).trans h⟩
        · cases h
  · intro args os r h
    change (S_impl_SendWord k).run args os = some r at h
    unfold S_impl_SendWord at h; dsimp only at h
    split at h
    · exact ⟨Nat.le_of_ble_eq_true (by kernel_rfl), rfl, rfl, k, 4000, (e_impl_SendWord k ⟨_, _⟩ _ _).trans h⟩
    · cases h
noncomputable def S_impl_flow (k : Nat) : Summ K TyK where
  R := DTake
  modes := [.mv]
  run := fun args objs => match args, objs with
    | [.agg [.lit (.int .i64 v1), .own 0, .lit (.string v2), .own 1]], [.sl .held v3, .sl .str v4] => impl_flow k (⟨v1, v3, v2, v4⟩ : DTake)
    | _, _ => none
  ret := fun r => (.agg [.lit (.int .i64 r.Next), .own 2, .lit (.string r.Open), .own 3], [.dead, .dead, .sl .held r.Held, .sl .str r.Ready])
  quiet := false
noncomputable def D_impl_flow (v : V) (os : Objs K TyK) : Option (DTake) :=
  match v, os with
  | .agg [.lit (.int .i64 v1), .own 2, .lit (.string v2), .own 3], [.dead, .dead, .sl .held v3, .sl .str v4] => some (⟨v1, v3, v2, v4⟩ : DTake)
  | _, _ => none
noncomputable def C_impl_flow_1 : Cut K TyK (DTake) where
  slots := [1, 2]
  fn := fun k vs os => match vs, os with
    | [.ref 2 0, .ref 3 0], [.dead, .dead, .box [.lit (.int .i64 x0), .own 4, .lit (.string x1), .own 5], .box [.lit (.int .i64 x2), .own 6, .lit (.string x3), .own 7], .sl .held x4, .sl .str x5, .sl .held x6, .sl .str x7] => impl_flow_l1 k x0 x1 x2 x3 x4 x5 x6 x7
    | _, _ => none
noncomputable abbrev G_impl_flow (k : Nat) : FuncId → Option (Summ K TyK) := lookT [(158, S_impl_goes k)]
noncomputable abbrev L_impl_flow : List (Nat × Cut K TyK (DTake)) := [(1, C_impl_flow_1)]
theorem c_impl_flow_1 (k : Nat) (x0 : Int) (x1 : ByteArray) (x2 : Int) (x3 : ByteArray) (x4 : List DHeld) (x5 : List ByteArray) (x6 : List DHeld) (x7 : List ByteArray) : run cod T (G_impl_flow k) (lam L_impl_flow k) (cutsOf L_impl_flow) 2 (finish cod T false 2 [.cell 2 40] D_impl_flow) 4000 true (todoAt 1 (bodyOf Try.f128)) (envOf [1, 2] [.ref 2 0, .ref 3 0]) [.dead, .dead, .box [.lit (.int .i64 x0), .own 4, .lit (.string x1), .own 5], .box [.lit (.int .i64 x2), .own 6, .lit (.string x3), .own 7], .sl .held x4, .sl .str x5, .sl .held x6, .sl .str x7] = impl_flow_l1 (k + 1) x0 x1 x2 x3 x4 x5 x6 x7 := by kernel_rfl
theorem e_impl_flow (k : Nat) (a0 : DTake) : run cod T (G_impl_flow k) (lam L_impl_flow k) (cutsOf L_impl_flow) 2 (finish cod T false 2 [.cell 2 40] D_impl_flow) 4000 false [.code (bodyOf Try.f128)] (envOf [0] [.agg [.lit (.int .i64 a0.Next), .own 2, .lit (.string a0.Open), .own 3]]) [.dead, .dead, .sl .held a0.Held, .sl .str a0.Ready] = impl_flow k a0 := by kernel_rfl
theorem ok_impl_flow (k : Nat) : SummOk Try.prog cod 128 (S_impl_flow k) := by
  refine summ_of (T := T) Try.f128 (G_impl_flow) L_impl_flow false [.cell 2 40] 2 D_impl_flow mixed (fun k => Known.of tok eok codOk ?_) (fun k => QuietOk.of ?_) Try.func128 (by kernel_rfl) (by kernel_rfl) (by kernel_rfl) (by kernel_rfl) (by kernel_rfl) ?_ ?_ [true, true] ?_
  · exact all_cons (ok_impl_goes k) (all_nil)
  · exact all_cons (fun h r => ⟨rfl, rfl⟩) (all_nil)
  · intro v os r h
    unfold D_impl_flow at h
    split at h <;> first | (cases h; rfl) | cases h
  · refine all_cons ?_ (all_nil)
    · refine ⟨fun vs os => ?_, by kernel_rfl, fun k vs os r h => ?_⟩
      · show C_impl_flow_1.fn 0 vs os = none
        unfold C_impl_flow_1; dsimp only; split <;> rfl
      · change C_impl_flow_1.fn (k + 1) vs os = some r at h
        unfold C_impl_flow_1 at h; dsimp only at h
        split at h
        · exact ⟨4000, (c_impl_flow_1 k _ _ _ _ _ _ _ _).trans h⟩
        · cases h
  · intro args os r h
    change (S_impl_flow k).run args os = some r at h
    unfold S_impl_flow at h; dsimp only at h
    split at h
    · exact ⟨Nat.le_of_ble_eq_true (by kernel_rfl), rfl, rfl, k, 4000, (e_impl_flow k ⟨_, _, _, _⟩).trans h⟩
    · cases h
noncomputable def S_impl_TakePart (k : Nat) : Summ K TyK where
  R := DTake
  modes := [.bo, .bo, .bo]
  run := fun args objs => match args, objs with
    | [.agg [.lit (.int .i64 v1), .inl true .held v2, .lit (.string v3), .inl true .str v4], .lit (.int .i64 v5), .agg [.lit (.string v6), .lit (.bool v7)]], [] => impl_TakePart k (⟨v1, v2, v3, v4⟩ : DTake) v5 (⟨v6, v7⟩ : DPart)
    | _, _ => none
  ret := fun r => (.agg [.lit (.int .i64 r.Next), .own 0, .lit (.string r.Open), .own 1], [.sl .held r.Held, .sl .str r.Ready])
  quiet := false
noncomputable def D_impl_TakePart (v : V) (os : Objs K TyK) : Option (DTake) :=
  match v, os with
  | .agg [.lit (.int .i64 v1), .own 0, .lit (.string v2), .own 1], [.sl .held v3, .sl .str v4] => some (⟨v1, v3, v2, v4⟩ : DTake)
  | _, _ => none
noncomputable def C_impl_TakePart_7 : Cut K TyK (DTake) where
  slots := [1, 5, 6, 7, 8]
  fn := fun k vs os => match vs, os with
    | [.lit (.int .i64 x0), .ref 0 0, .ref 1 0, .ref 2 0, .lit (.int .i64 x1)], [.box [.lit (.string x2), .lit (.bool x3)], .box [.lit (.int .i64 x4), .own 3, .lit (.string x5), .own 4], .box [.lit (.int .i64 x6), .own 5, .lit (.string x7), .own 6], .sl .held x8, .sl .str x9, .sl .held x10, .sl .str x11] => impl_TakePart_l7 k x0 x1 x2 x3 x4 x5 x6 x7 x8 x9 x10 x11
    | _, _ => none
noncomputable abbrev G_impl_TakePart (k : Nat) : FuncId → Option (Summ K TyK) := lookT [(110, S_impl_ValidTake k), (127, S_impl_copyTake k), (75, S_impl_in k), (128, S_impl_flow k)]
noncomputable abbrev L_impl_TakePart : List (Nat × Cut K TyK (DTake)) := [(7, C_impl_TakePart_7)]
theorem c_impl_TakePart_7 (k : Nat) (x0 : Int) (x1 : Int) (x2 : ByteArray) (x3 : Bool) (x4 : Int) (x5 : ByteArray) (x6 : Int) (x7 : ByteArray) (x8 : List DHeld) (x9 : List ByteArray) (x10 : List DHeld) (x11 : List ByteArray) : run cod T (G_impl_TakePart k) (lam L_impl_TakePart k) (cutsOf L_impl_TakePart) 0 (finish cod T false 0 [.cell 6 40] D_impl_TakePart) 4000 true (todoAt 7 (bodyOf Try.f61)) (envOf [1, 5, 6, 7, 8] [.lit (.int .i64 x0), .ref 0 0, .ref 1 0, .ref 2 0, .lit (.int .i64 x1)]) [.box [.lit (.string x2), .lit (.bool x3)], .box [.lit (.int .i64 x4), .own 3, .lit (.string x5), .own 4], .box [.lit (.int .i64 x6), .own 5, .lit (.string x7), .own 6], .sl .held x8, .sl .str x9, .sl .held x10, .sl .str x11] = impl_TakePart_l7 (k + 1) x0 x1 x2 x3 x4 x5 x6 x7 x8 x9 x10 x11 := by kernel_rfl
theorem e_impl_TakePart (k : Nat) (a0 : DTake) (a1 : Int) (a2 : DPart) : run cod T (G_impl_TakePart k) (lam L_impl_TakePart k) (cutsOf L_impl_TakePart) 0 (finish cod T false 0 [.cell 6 40] D_impl_TakePart) 4000 false [.code (bodyOf Try.f61)] (envOf [0, 1, 2] [.agg [.lit (.int .i64 a0.Next), .inl true .held a0.Held, .lit (.string a0.Open), .inl true .str a0.Ready], .lit (.int .i64 a1), .agg [.lit (.string a2.Text), .lit (.bool a2.Last)]]) [] = impl_TakePart k a0 a1 a2 := by kernel_rfl
theorem ok_impl_TakePart (k : Nat) : SummOk Try.prog cod 61 (S_impl_TakePart k) := by
  refine summ_of (T := T) Try.f61 (G_impl_TakePart) L_impl_TakePart false [.cell 6 40] 0 D_impl_TakePart mixed (fun k => Known.of tok eok codOk ?_) (fun k => QuietOk.of ?_) Try.func61 (by kernel_rfl) (by kernel_rfl) (by kernel_rfl) (by kernel_rfl) (by kernel_rfl) ?_ ?_ [] ?_
  · exact all_cons (ok_impl_ValidTake k) (all_cons (ok_impl_copyTake k) (all_cons (ok_impl_in k) (all_cons (ok_impl_flow k) (all_nil))))
  · exact all_cons (fun h r => ⟨rfl, rfl⟩) (all_cons (fun h r => by cases h) (all_cons (fun h r => ⟨rfl, rfl⟩) (all_cons (fun h r => by cases h) (all_nil))))
  · intro v os r h
    unfold D_impl_TakePart at h
    split at h <;> first | (cases h; rfl) | cases h
  · refine all_cons ?_ (all_nil)
    · refine ⟨fun vs os => ?_, by kernel_rfl, fun k vs os r h => ?_⟩
      · show C_impl_TakePart_7.fn 0 vs os = none
        unfold C_impl_TakePart_7; dsimp only; split <;> rfl
      · change C_impl_TakePart_7.fn (k + 1) vs os = some r at h
        unfold C_impl_TakePart_7 at h; dsimp only at h
        split at h
        · exact ⟨4000, (c_impl_TakePart_7 k _ _ _ _ _ _ _ _ _ _ _ _).trans h⟩
        · cases h
  · intro args os r h
    change (S_impl_TakePart k).run args os = some r at h
    unfold S_impl_TakePart at h; dsimp only at h
    split at h
    · exact ⟨Nat.le_of_ble_eq_true (by kernel_rfl), rfl, rfl, k, 4000, (e_impl_TakePart k ⟨_, _, _, _⟩ _ ⟨_, _⟩).trans h⟩
    · cases h
noncomputable def S_impl_EndTake (k : Nat) : Summ K TyK where
  R := DActed
  modes := [.bo, .bo]
  run := fun args objs => match args, objs with
    | [.agg [.lit (.int .i64 v1), .lit (.bool v2), .lit (.int .i64 v3), .lit (.int .i64 v4), .lit (.int .i64 v5), .lit (.bool v6), .lit (.int .i64 v7), .inl true .item v8, .lit (.int .i64 v9), .inl true .held v10, .lit (.string v11), .inl true .str v12], .agg [.lit (.int .i64 v13), .lit (.int .i64 v14), .lit (.int .i64 v15), .lit (.int .i64 v16), .lit (.int .i64 v17), .lit (.int .i64 v18), .lit (.int .i64 v19), .lit (.bool v20), .lit (.string v21)]], [] => impl_EndTake k (⟨v1, v2, v3, v4, v5, v6, (⟨v7, v8⟩ : DSend), (⟨v9, v10, v11, v12⟩ : DTake)⟩ : DEnd) (⟨v13, v14, v15, v16, v17, v18, v19, v20, v21⟩ : DPacket)
    | _, _ => none
  ret := fun r => (.agg [.lit (.int .i64 r.Code), .lit (.int .i64 r.End.Number), .lit (.bool r.End.Up), .lit (.int .i64 r.End.Life), .lit (.int .i64 r.End.Peer), .lit (.int .i64 r.End.Since), .lit (.bool r.End.Owes), .lit (.int .i64 r.End.Send.Base), .own 0, .lit (.int .i64 r.End.Take.Next), .own 1, .lit (.string r.End.Take.Open), .own 2, .own 3, .lit (.string r.Text)], [.sl .item r.End.Send.Items, .sl .held r.End.Take.Held, .sl .str r.End.Take.Ready, .sl .packet r.Out])
  quiet := false
noncomputable def D_impl_EndTake (v : V) (os : Objs K TyK) : Option (DActed) :=
  match v, os with
  | .agg [.lit (.int .i64 v1), .lit (.int .i64 v2), .lit (.bool v3), .lit (.int .i64 v4), .lit (.int .i64 v5), .lit (.int .i64 v6), .lit (.bool v7), .lit (.int .i64 v8), .own 0, .lit (.int .i64 v9), .own 1, .lit (.string v10), .own 2, .own 3, .lit (.string v11)], [.sl .item v12, .sl .held v13, .sl .str v14, .sl .packet v15] => some (⟨v1, (⟨v2, v3, v4, v5, v6, v7, (⟨v8, v12⟩ : DSend), (⟨v9, v13, v10, v14⟩ : DTake)⟩ : DEnd), v15, v11⟩ : DActed)
  | _, _ => none
noncomputable def C_impl_EndTake_9 : Cut K TyK (DActed) where
  slots := [3, 4, 5, 6]
  fn := fun k vs os => match vs, os with
    | [.ref 0 0, .ref 1 0, .ref 2 0, .ref 2 1], [.box [.lit (.int .i64 x0), .lit (.int .i64 x1), .lit (.int .i64 x2), .lit (.int .i64 x3), .lit (.int .i64 x4), .lit (.int .i64 x5), .lit (.int .i64 x6), .lit (.bool x7), .lit (.string x8)], .box [.lit (.int .i64 x9), .lit (.int .i64 x10), .lit (.bool x11), .lit (.int .i64 x12), .lit (.int .i64 x13), .lit (.int .i64 x14), .lit (.bool x15), .lit (.int .i64 x16), .own 3, .lit (.int .i64 x17), .own 4, .lit (.string x18), .own 5, .own 6, .lit (.string x19)], .box [.lit (.int .i64 x20), .lit (.int .i64 x21), .lit (.bool x22), .lit (.int .i64 x23), .lit (.int .i64 x24), .lit (.int .i64 x25), .lit (.bool x26), .lit (.int .i64 x27), .own 7, .lit (.int .i64 x28), .own 8, .lit (.string x29), .own 9, .own 10, .lit (.string x30)], .sl .item x31, .sl .held x32, .sl .str x33, .sl .packet x34, .sl .item x35, .sl .held x36, .sl .str x37, .sl .packet x38] => impl_EndTake_l9 k x0 x1 x2 x3 x4 x5 x6 x7 x8 x9 x10 x11 x12 x13 x14 x15 x16 x17 x18 x19 x20 x21 x22 x23 x24 x25 x26 x27 x28 x29 x30 x31 x32 x33 x34 x35 x36 x37 x38
    | _, _ => none
noncomputable def C_impl_EndTake_16 : Cut K TyK (DActed) where
  slots := [4, 5]
  fn := fun k vs os => match vs, os with
    | [.ref 0 0, .ref 1 0], [.box [.lit (.int .i64 x0), .lit (.int .i64 x1), .lit (.bool x2), .lit (.int .i64 x3), .lit (.int .i64 x4), .lit (.int .i64 x5), .lit (.bool x6), .lit (.int .i64 x7), .own 2, .lit (.int .i64 x8), .own 3, .lit (.string x9), .own 4, .own 5, .lit (.string x10)], .box [.lit (.int .i64 x11), .lit (.int .i64 x12), .lit (.bool x13), .lit (.int .i64 x14), .lit (.int .i64 x15), .lit (.int .i64 x16), .lit (.bool x17), .lit (.int .i64 x18), .own 6, .lit (.int .i64 x19), .own 7, .lit (.string x20), .own 8, .own 9, .lit (.string x21)], .sl .item x22, .sl .held x23, .sl .str x24, .sl .packet x25, .sl .item x26, .sl .held x27, .sl .str x28, .sl .packet x29] => impl_EndTake_l16 k x0 x1 x2 x3 x4 x5 x6 x7 x8 x9 x10 x11 x12 x13 x14 x15 x16 x17 x18 x19 x20 x21 x22 x23 x24 x25 x26 x27 x28 x29
    | _, _ => none
noncomputable abbrev G_impl_EndTake (k : Nat) : FuncId → Option (Summ K TyK) := lookT [(46, S_impl_ValidEnd k), (58, S_impl_copyEnd k), (59, S_impl_validPacket k), (60, S_impl_SendWord k), (61, S_impl_TakePart k)]
noncomputable abbrev L_impl_EndTake : List (Nat × Cut K TyK (DActed)) := [(9, C_impl_EndTake_9), (16, C_impl_EndTake_16)]
theorem c_impl_EndTake_9 (k : Nat) (x0 : Int) (x1 : Int) (x2 : Int) (x3 : Int) (x4 : Int) (x5 : Int) (x6 : Int) (x7 : Bool) (x8 : ByteArray) (x9 : Int) (x10 : Int) (x11 : Bool) (x12 : Int) (x13 : Int) (x14 : Int) (x15 : Bool) (x16 : Int) (x17 : Int) (x18 : ByteArray) (x19 : ByteArray) (x20 : Int) (x21 : Int) (x22 : Bool) (x23 : Int) (x24 : Int) (x25 : Int) (x26 : Bool) (x27 : Int) (x28 : Int) (x29 : ByteArray) (x30 : ByteArray) (x31 : List DItem) (x32 : List DHeld) (x33 : List ByteArray) (x34 : List DPacket) (x35 : List DItem) (x36 : List DHeld) (x37 : List ByteArray) (x38 : List DPacket) : run cod T (G_impl_EndTake k) (lam L_impl_EndTake k) (cutsOf L_impl_EndTake) 0 (finish cod T false 0 [.cell 4 45] D_impl_EndTake) 4000 true (todoAt 9 (bodyOf Try.f15)) (envOf [3, 4, 5, 6] [.ref 0 0, .ref 1 0, .ref 2 0, .ref 2 1]) [.box [.lit (.int .i64 x0), .lit (.int .i64 x1), .lit (.int .i64 x2), .lit (.int .i64 x3), .lit (.int .i64 x4), .lit (.int .i64 x5), .lit (.int .i64 x6), .lit (.bool x7), .lit (.string x8)], .box [.lit (.int .i64 x9), .lit (.int .i64 x10), .lit (.bool x11), .lit (.int .i64 x12), .lit (.int .i64 x13), .lit (.int .i64 x14), .lit (.bool x15), .lit (.int .i64 x16), .own 3, .lit (.int .i64 x17), .own 4, .lit (.string x18), .own 5, .own 6, .lit (.string x19)], .box [.lit (.int .i64 x20), .lit (.int .i64 x21), .lit (.bool x22), .lit (.int .i64 x23), .lit (.int .i64 x24), .lit (.int .i64 x25), .lit (.bool x26), .lit (.int .i64 x27), .own 7, .lit (.int .i64 x28), .own 8, .lit (.string x29), .own 9, .own 10, .lit (.string x30)], .sl .item x31, .sl .held x32, .sl .str x33, .sl .packet x34, .sl .item x35, .sl .held x36, .sl .str x37, .sl .packet x38] = impl_EndTake_l9 (k + 1) x0 x1 x2 x3 x4 x5 x6 x7 x8 x9 x10 x11 x12 x13 x14 x15 x16 x17 x18 x19 x20 x21 x22 x23 x24 x25 x26 x27 x28 x29 x30 x31 x32 x33 x34 x35 x36 x37 x38 := by kernel_rfl
theorem c_impl_EndTake_16 (k : Nat) (x0 : Int) (x1 : Int) (x2 : Bool) (x3 : Int) (x4 : Int) (x5 : Int) (x6 : Bool) (x7 : Int) (x8 : Int) (x9 : ByteArray) (x10 : ByteArray) (x11 : Int) (x12 : Int) (x13 : Bool) (x14 : Int) (x15 : Int) (x16 : Int) (x17 : Bool) (x18 : Int) (x19 : Int) (x20 : ByteArray) (x21 : ByteArray) (x22 : List DItem) (x23 : List DHeld) (x24 : List ByteArray) (x25 : List DPacket) (x26 : List DItem) (x27 : List DHeld) (x28 : List ByteArray) (x29 : List DPacket) : run cod T (G_impl_EndTake k) (lam L_impl_EndTake k) (cutsOf L_impl_EndTake) 0 (finish cod T false 0 [.cell 4 45] D_impl_EndTake) 4000 true (todoAt 16 (bodyOf Try.f15)) (envOf [4, 5] [.ref 0 0, .ref 1 0]) [.box [.lit (.int .i64 x0), .lit (.int .i64 x1), .lit (.bool x2), .lit (.int .i64 x3), .lit (.int .i64 x4), .lit (.int .i64 x5), .lit (.bool x6), .lit (.int .i64 x7), .own 2, .lit (.int .i64 x8), .own 3, .lit (.string x9), .own 4, .own 5, .lit (.string x10)], .box [.lit (.int .i64 x11), .lit (.int .i64 x12), .lit (.bool x13), .lit (.int .i64 x14), .lit (.int .i64 x15), .lit (.int .i64 x16), .lit (.bool x17), .lit (.int .i64 x18), .own 6, .lit (.int .i64 x19), .own 7, .lit (.string x20), .own 8, .own 9, .lit (.string x21)], .sl .item x22, .sl .held x23, .sl .str x24, .sl .packet x25, .sl .item x26, .sl .held x27, .sl .str x28, .sl .packet x29] = impl_EndTake_l16 (k + 1) x0 x1 x2 x3 x4 x5 x6 x7 x8 x9 x10 x11 x12 x13 x14 x15 x16 x17 x18 x19 x20 x21 x22 x23 x24 x25 x26 x27 x28 x29 := by kernel_rfl
theorem e_impl_EndTake (k : Nat) (a0 : DEnd) (a1 : DPacket) : run cod T (G_impl_EndTake k) (lam L_impl_EndTake k) (cutsOf L_impl_EndTake) 0 (finish cod T false 0 [.cell 4 45] D_impl_EndTake) 4000 false [.code (bodyOf Try.f15)] (envOf [0, 1] [.agg [.lit (.int .i64 a0.Number), .lit (.bool a0.Up), .lit (.int .i64 a0.Life), .lit (.int .i64 a0.Peer), .lit (.int .i64 a0.Since), .lit (.bool a0.Owes), .lit (.int .i64 a0.Send.Base), .inl true .item a0.Send.Items, .lit (.int .i64 a0.Take.Next), .inl true .held a0.Take.Held, .lit (.string a0.Take.Open), .inl true .str a0.Take.Ready], .agg [.lit (.int .i64 a1.Kind), .lit (.int .i64 a1.From), .lit (.int .i64 a1.Mine), .lit (.int .i64 a1.Yours), .lit (.int .i64 a1.Next), .lit (.int .i64 a1.Mask), .lit (.int .i64 a1.Seq), .lit (.bool a1.Last), .lit (.string a1.Part)]]) [] = impl_EndTake k a0 a1 := by kernel_rfl
theorem ok_impl_EndTake (k : Nat) : SummOk Try.prog cod 15 (S_impl_EndTake k) := by
  refine summ_of (T := T) Try.f15 (G_impl_EndTake) L_impl_EndTake false [.cell 4 45] 0 D_impl_EndTake mixed (fun k => Known.of tok eok codOk ?_) (fun k => QuietOk.of ?_) Try.func15 (by kernel_rfl) (by kernel_rfl) (by kernel_rfl) (by kernel_rfl) (by kernel_rfl) ?_ ?_ [] ?_
  · exact all_cons (ok_impl_ValidEnd k) (all_cons (ok_impl_copyEnd k) (all_cons (ok_impl_validPacket k) (all_cons (ok_impl_SendWord k) (all_cons (ok_impl_TakePart k) (all_nil)))))
  · exact all_cons (fun h r => ⟨rfl, rfl⟩) (all_cons (fun h r => by cases h) (all_cons (fun h r => ⟨rfl, rfl⟩) (all_cons (fun h r => by cases h) (all_cons (fun h r => by cases h) (all_nil)))))
  · intro v os r h
    unfold D_impl_EndTake at h
    split at h <;> first | (cases h; rfl) | cases h
  · refine all_cons ?_ (all_cons ?_ (all_nil))
    · refine ⟨fun vs os => ?_, by kernel_rfl, fun k vs os r h => ?_⟩
      · show C_impl_EndTake_9.fn 0 vs os = none
        unfold C_impl_EndTake_9; dsimp only; split <;> rfl
      · change C_impl_EndTake_9.fn (k + 1) vs os = some r at h
        unfold C_impl_EndTake_9 at h; dsimp only at h
        split at h
        · exact ⟨4000, (c_impl_EndTake_9 k _ _ _ _ _ _ _ _ _ _ _ _ _ _ _ _ _ _ _ _ _ _ _ _ _ _ _ _ _ _ _ _ _ _ _ _ _ _ _).trans h⟩
        · cases h
    · refine ⟨fun vs os => ?_, by kernel_rfl, fun k vs os r h => ?_⟩
      · show C_impl_EndTake_16.fn 0 vs os = none
        unfold C_impl_EndTake_16; dsimp only; split <;> rfl
      · change C_impl_EndTake_16.fn (k + 1) vs os = some r at h
        unfold C_impl_EndTake_16 at h; dsimp only at h
        split at h
        · exact ⟨4000, (c_impl_EndTake_16 k _ _ _ _ _ _ _ _ _ _ _ _ _ _ _ _ _ _ _ _ _ _ _ _ _ _ _ _ _ _).trans h⟩
        · cases h
  · intro args os r h
    change (S_impl_EndTake k).run args os = some r at h
    unfold S_impl_EndTake at h; dsimp only at h
    split at h
    · exact ⟨Nat.le_of_ble_eq_true (by kernel_rfl), rfl, rfl, k, 4000, (e_impl_EndTake k ⟨_, _, _, _, _, _, ⟨_, _⟩, ⟨_, _, _, _⟩⟩ ⟨_, _, _, _, _, _, _, _, _⟩).trans h⟩
    · cases h
noncomputable def S_laws_eqPart (k : Nat) : Summ K TyK where
  R := Bool
  modes := [.bo, .bo]
  run := fun args objs => match args, objs with
    | [.agg [.lit (.string v1), .lit (.bool v2)], .agg [.lit (.string v3), .lit (.bool v4)]], [] => laws_eqPart k (⟨v1, v2⟩ : DPart) (⟨v3, v4⟩ : DPart)
    | _, _ => none
  ret := fun r => (.lit (.bool r), [])
  quiet := true
noncomputable def D_laws_eqPart (v : V) (os : Objs K TyK) : Option (Bool) :=
  match v, os with
  | .lit (.bool v1), [] => some v1
  | _, _ => none
noncomputable abbrev G_laws_eqPart (k : Nat) : FuncId → Option (Summ K TyK) := lookT []
noncomputable abbrev L_laws_eqPart : List (Nat × Cut K TyK (Bool)) := []
theorem e_laws_eqPart (k : Nat) (a0 : DPart) (a1 : DPart) : run cod T (G_laws_eqPart k) (lam L_laws_eqPart k) (cutsOf L_laws_eqPart) 0 (finish cod T false 0 [.tmp 4] D_laws_eqPart) 4000 false [.code (bodyOf Try.f179)] (envOf [0, 1] [.agg [.lit (.string a0.Text), .lit (.bool a0.Last)], .agg [.lit (.string a1.Text), .lit (.bool a1.Last)]]) [] = laws_eqPart k a0 a1 := by kernel_rfl
theorem ok_laws_eqPart (k : Nat) : SummOk Try.prog cod 179 (S_laws_eqPart k) := by
  refine summ_of (T := T) Try.f179 (G_laws_eqPart) L_laws_eqPart false [.tmp 4] 0 D_laws_eqPart mixed (fun k => Known.of tok eok codOk ?_) (fun k => QuietOk.of ?_) Try.func179 (by kernel_rfl) (by kernel_rfl) (by kernel_rfl) (by kernel_rfl) (by kernel_rfl) ?_ ?_ [] ?_
  · exact all_nil
  · exact all_nil
  · intro v os r h
    unfold D_laws_eqPart at h
    split at h <;> first | (cases h; rfl) | cases h
  · refine all_nil
  · intro args os r h
    change (S_laws_eqPart k).run args os = some r at h
    unfold S_laws_eqPart at h; dsimp only at h
    split at h
    · exact ⟨Nat.le_of_ble_eq_true (by kernel_rfl), rfl, rfl, k, 4000, (e_laws_eqPart k ⟨_, _⟩ ⟨_, _⟩).trans h⟩
    · cases h
noncomputable def S_laws_eqItem (k : Nat) : Summ K TyK where
  R := Bool
  modes := [.bo, .bo]
  run := fun args objs => match args, objs with
    | [.agg [.lit (.string v1), .lit (.bool v2), .lit (.bool v3), .lit (.int .i64 v4)], .agg [.lit (.string v5), .lit (.bool v6), .lit (.bool v7), .lit (.int .i64 v8)]], [] => laws_eqItem k (⟨(⟨v1, v2⟩ : DPart), v3, v4⟩ : DItem) (⟨(⟨v5, v6⟩ : DPart), v7, v8⟩ : DItem)
    | _, _ => none
  ret := fun r => (.lit (.bool r), [])
  quiet := true
noncomputable def D_laws_eqItem (v : V) (os : Objs K TyK) : Option (Bool) :=
  match v, os with
  | .lit (.bool v1), [] => some v1
  | _, _ => none
noncomputable abbrev G_laws_eqItem (k : Nat) : FuncId → Option (Summ K TyK) := lookT [(179, S_laws_eqPart k)]
noncomputable abbrev L_laws_eqItem : List (Nat × Cut K TyK (Bool)) := []
theorem e_laws_eqItem (k : Nat) (a0 : DItem) (a1 : DItem) : run cod T (G_laws_eqItem k) (lam L_laws_eqItem k) (cutsOf L_laws_eqItem) 0 (finish cod T false 0 [.tmp 4] D_laws_eqItem) 4000 false [.code (bodyOf Try.f163)] (envOf [0, 1] [.agg [.lit (.string a0.Part.Text), .lit (.bool a0.Part.Last), .lit (.bool a0.Has), .lit (.int .i64 a0.Since)], .agg [.lit (.string a1.Part.Text), .lit (.bool a1.Part.Last), .lit (.bool a1.Has), .lit (.int .i64 a1.Since)]]) [] = laws_eqItem k a0 a1 := by kernel_rfl
theorem ok_laws_eqItem (k : Nat) : SummOk Try.prog cod 163 (S_laws_eqItem k) := by
  refine summ_of (T := T) Try.f163 (G_laws_eqItem) L_laws_eqItem false [.tmp 4] 0 D_laws_eqItem mixed (fun k => Known.of tok eok codOk ?_) (fun k => QuietOk.of ?_) Try.func163 (by kernel_rfl) (by kernel_rfl) (by kernel_rfl) (by kernel_rfl) (by kernel_rfl) ?_ ?_ [] ?_
  · exact all_cons (ok_laws_eqPart k) (all_nil)
  · exact all_cons (fun h r => ⟨rfl, rfl⟩) (all_nil)
  · intro v os r h
    unfold D_laws_eqItem at h
    split at h <;> first | (cases h; rfl) | cases h
  · refine all_nil
  · intro args os r h
    change (S_laws_eqItem k).run args os = some r at h
    unfold S_laws_eqItem at h; dsimp only at h
    split at h
    · exact ⟨Nat.le_of_ble_eq_true (by kernel_rfl), rfl, rfl, k, 4000, (e_laws_eqItem k ⟨⟨_, _⟩, _, _⟩ ⟨⟨_, _⟩, _, _⟩).trans h⟩
    · cases h
noncomputable def S_laws_eqItemS (k : Nat) : Summ K TyK where
  R := Bool
  modes := [.bo, .bo]
  run := fun args objs => match args, objs with
    | [.inl true .item v1, .inl true .item v2], [] => laws_eqItemS k v1 v2
    | _, _ => none
  ret := fun r => (.lit (.bool r), [])
  quiet := true
noncomputable def D_laws_eqItemS (v : V) (os : Objs K TyK) : Option (Bool) :=
  match v, os with
  | .lit (.bool v1), [] => some v1
  | _, _ => none
noncomputable def C_laws_eqItemS_4 : Cut K TyK (Bool) where
  slots := [0, 1, 5]
  fn := fun k vs os => match vs, os with
    | [.inl true .item x0, .inl true .item x1, .lit (.int .i64 x2)], [] => laws_eqItemS_l4 k x0 x1 x2
    | _, _ => none
noncomputable abbrev G_laws_eqItemS (k : Nat) : FuncId → Option (Summ K TyK) := lookT [(163, S_laws_eqItem k)]
noncomputable abbrev L_laws_eqItemS : List (Nat × Cut K TyK (Bool)) := [(4, C_laws_eqItemS_4)]
theorem c_laws_eqItemS_4 (k : Nat) (x0 : List DItem) (x1 : List DItem) (x2 : Int) : run cod T (G_laws_eqItemS k) (lam L_laws_eqItemS k) (cutsOf L_laws_eqItemS) 0 (finish cod T false 0 [.tmp 4] D_laws_eqItemS) 4000 true (todoAt 4 (bodyOf Try.f130)) (envOf [0, 1, 5] [.inl true .item x0, .inl true .item x1, .lit (.int .i64 x2)]) [] = laws_eqItemS_l4 (k + 1) x0 x1 x2 := by kernel_rfl
theorem e_laws_eqItemS (k : Nat) (a0 : List DItem) (a1 : List DItem) : run cod T (G_laws_eqItemS k) (lam L_laws_eqItemS k) (cutsOf L_laws_eqItemS) 0 (finish cod T false 0 [.tmp 4] D_laws_eqItemS) 4000 false [.code (bodyOf Try.f130)] (envOf [0, 1] [.inl true .item a0, .inl true .item a1]) [] = laws_eqItemS k a0 a1 := by kernel_rfl
theorem ok_laws_eqItemS (k : Nat) : SummOk Try.prog cod 130 (S_laws_eqItemS k) := by
  refine summ_of (T := T) Try.f130 (G_laws_eqItemS) L_laws_eqItemS false [.tmp 4] 0 D_laws_eqItemS mixed (fun k => Known.of tok eok codOk ?_) (fun k => QuietOk.of ?_) Try.func130 (by kernel_rfl) (by kernel_rfl) (by kernel_rfl) (by kernel_rfl) (by kernel_rfl) ?_ ?_ [] ?_
  · exact all_cons (ok_laws_eqItem k) (all_nil)
  · exact all_cons (fun h r => ⟨rfl, rfl⟩) (all_nil)
  · intro v os r h
    unfold D_laws_eqItemS at h
    split at h <;> first | (cases h; rfl) | cases h
  · refine all_cons ?_ (all_nil)
    · refine ⟨fun vs os => ?_, by kernel_rfl, fun k vs os r h => ?_⟩
      · show C_laws_eqItemS_4.fn 0 vs os = none
        unfold C_laws_eqItemS_4; dsimp only; split <;> rfl
      · change C_laws_eqItemS_4.fn (k + 1) vs os = some r at h
        unfold C_laws_eqItemS_4 at h; dsimp only at h
        split at h
        · exact ⟨4000, (c_laws_eqItemS_4 k _ _ _).trans h⟩
        · cases h
  · intro args os r h
    change (S_laws_eqItemS k).run args os = some r at h
    unfold S_laws_eqItemS at h; dsimp only at h
    split at h
    · exact ⟨Nat.le_of_ble_eq_true (by kernel_rfl), rfl, rfl, k, 4000, (e_laws_eqItemS k _ _).trans h⟩
    · cases h
noncomputable def S_laws_eqSend (k : Nat) : Summ K TyK where
  R := Bool
  modes := [.bo, .bo]
  run := fun args objs => match args, objs with
    | [.agg [.lit (.int .i64 v1), .inl true .item v2], .agg [.lit (.int .i64 v3), .inl true .item v4]], [] => laws_eqSend k (⟨v1, v2⟩ : DSend) (⟨v3, v4⟩ : DSend)
    | _, _ => none
  ret := fun r => (.lit (.bool r), [])
  quiet := true
noncomputable def D_laws_eqSend (v : V) (os : Objs K TyK) : Option (Bool) :=
  match v, os with
  | .lit (.bool v1), [] => some v1
  | _, _ => none
noncomputable abbrev G_laws_eqSend (k : Nat) : FuncId → Option (Summ K TyK) := lookT [(130, S_laws_eqItemS k)]
noncomputable abbrev L_laws_eqSend : List (Nat × Cut K TyK (Bool)) := []
theorem e_laws_eqSend (k : Nat) (a0 : DSend) (a1 : DSend) : run cod T (G_laws_eqSend k) (lam L_laws_eqSend k) (cutsOf L_laws_eqSend) 0 (finish cod T false 0 [.tmp 4] D_laws_eqSend) 4000 false [.code (bodyOf Try.f63)] (envOf [0, 1] [.agg [.lit (.int .i64 a0.Base), .inl true .item a0.Items], .agg [.lit (.int .i64 a1.Base), .inl true .item a1.Items]]) [] = laws_eqSend k a0 a1 := by kernel_rfl
theorem ok_laws_eqSend (k : Nat) : SummOk Try.prog cod 63 (S_laws_eqSend k) := by
  refine summ_of (T := T) Try.f63 (G_laws_eqSend) L_laws_eqSend false [.tmp 4] 0 D_laws_eqSend mixed (fun k => Known.of tok eok codOk ?_) (fun k => QuietOk.of ?_) Try.func63 (by kernel_rfl) (by kernel_rfl) (by kernel_rfl) (by kernel_rfl) (by kernel_rfl) ?_ ?_ [] ?_
  · exact all_cons (ok_laws_eqItemS k) (all_nil)
  · exact all_cons (fun h r => ⟨rfl, rfl⟩) (all_nil)
  · intro v os r h
    unfold D_laws_eqSend at h
    split at h <;> first | (cases h; rfl) | cases h
  · refine all_nil
  · intro args os r h
    change (S_laws_eqSend k).run args os = some r at h
    unfold S_laws_eqSend at h; dsimp only at h
    split at h
    · exact ⟨Nat.le_of_ble_eq_true (by kernel_rfl), rfl, rfl, k, 4000, (e_laws_eqSend k ⟨_, _⟩ ⟨_, _⟩).trans h⟩
    · cases h
noncomputable def S_laws_eqHeld (k : Nat) : Summ K TyK where
  R := Bool
  modes := [.bo, .bo]
  run := fun args objs => match args, objs with
    | [.agg [.lit (.int .i64 v1), .lit (.string v2), .lit (.bool v3)], .agg [.lit (.int .i64 v4), .lit (.string v5), .lit (.bool v6)]], [] => laws_eqHeld k (⟨v1, (⟨v2, v3⟩ : DPart)⟩ : DHeld) (⟨v4, (⟨v5, v6⟩ : DPart)⟩ : DHeld)
    | _, _ => none
  ret := fun r => (.lit (.bool r), [])
  quiet := true
noncomputable def D_laws_eqHeld (v : V) (os : Objs K TyK) : Option (Bool) :=
  match v, os with
  | .lit (.bool v1), [] => some v1
  | _, _ => none
noncomputable abbrev G_laws_eqHeld (k : Nat) : FuncId → Option (Summ K TyK) := lookT [(179, S_laws_eqPart k)]
noncomputable abbrev L_laws_eqHeld : List (Nat × Cut K TyK (Bool)) := []
theorem e_laws_eqHeld (k : Nat) (a0 : DHeld) (a1 : DHeld) : run cod T (G_laws_eqHeld k) (lam L_laws_eqHeld k) (cutsOf L_laws_eqHeld) 0 (finish cod T false 0 [.tmp 4] D_laws_eqHeld) 4000 false [.code (bodyOf Try.f164)] (envOf [0, 1] [.agg [.lit (.int .i64 a0.Seq), .lit (.string a0.Part.Text), .lit (.bool a0.Part.Last)], .agg [.lit (.int .i64 a1.Seq), .lit (.string a1.Part.Text), .lit (.bool a1.Part.Last)]]) [] = laws_eqHeld k a0 a1 := by kernel_rfl
theorem ok_laws_eqHeld (k : Nat) : SummOk Try.prog cod 164 (S_laws_eqHeld k) := by
  refine summ_of (T := T) Try.f164 (G_laws_eqHeld) L_laws_eqHeld false [.tmp 4] 0 D_laws_eqHeld mixed (fun k => Known.of tok eok codOk ?_) (fun k => QuietOk.of ?_) Try.func164 (by kernel_rfl) (by kernel_rfl) (by kernel_rfl) (by kernel_rfl) (by kernel_rfl) ?_ ?_ [] ?_
  · exact all_cons (ok_laws_eqPart k) (all_nil)
  · exact all_cons (fun h r => ⟨rfl, rfl⟩) (all_nil)
  · intro v os r h
    unfold D_laws_eqHeld at h
    split at h <;> first | (cases h; rfl) | cases h
  · refine all_nil
  · intro args os r h
    change (S_laws_eqHeld k).run args os = some r at h
    unfold S_laws_eqHeld at h; dsimp only at h
    split at h
    · exact ⟨Nat.le_of_ble_eq_true (by kernel_rfl), rfl, rfl, k, 4000, (e_laws_eqHeld k ⟨_, ⟨_, _⟩⟩ ⟨_, ⟨_, _⟩⟩).trans h⟩
    · cases h
noncomputable def S_laws_eqHeldS (k : Nat) : Summ K TyK where
  R := Bool
  modes := [.bo, .bo]
  run := fun args objs => match args, objs with
    | [.inl true .held v1, .inl true .held v2], [] => laws_eqHeldS k v1 v2
    | _, _ => none
  ret := fun r => (.lit (.bool r), [])
  quiet := true
noncomputable def D_laws_eqHeldS (v : V) (os : Objs K TyK) : Option (Bool) :=
  match v, os with
  | .lit (.bool v1), [] => some v1
  | _, _ => none
noncomputable def C_laws_eqHeldS_4 : Cut K TyK (Bool) where
  slots := [0, 1, 5]
  fn := fun k vs os => match vs, os with
    | [.inl true .held x0, .inl true .held x1, .lit (.int .i64 x2)], [] => laws_eqHeldS_l4 k x0 x1 x2
    | _, _ => none
noncomputable abbrev G_laws_eqHeldS (k : Nat) : FuncId → Option (Summ K TyK) := lookT [(164, S_laws_eqHeld k)]
noncomputable abbrev L_laws_eqHeldS : List (Nat × Cut K TyK (Bool)) := [(4, C_laws_eqHeldS_4)]
theorem c_laws_eqHeldS_4 (k : Nat) (x0 : List DHeld) (x1 : List DHeld) (x2 : Int) : run cod T (G_laws_eqHeldS k) (lam L_laws_eqHeldS k) (cutsOf L_laws_eqHeldS) 0 (finish cod T false 0 [.tmp 4] D_laws_eqHeldS) 4000 true (todoAt 4 (bodyOf Try.f131)) (envOf [0, 1, 5] [.inl true .held x0, .inl true .held x1, .lit (.int .i64 x2)]) [] = laws_eqHeldS_l4 (k + 1) x0 x1 x2 := by kernel_rfl
theorem e_laws_eqHeldS (k : Nat) (a0 : List DHeld) (a1 : List DHeld) : run cod T (G_laws_eqHeldS k) (lam L_laws_eqHeldS k) (cutsOf L_laws_eqHeldS) 0 (finish cod T false 0 [.tmp 4] D_laws_eqHeldS) 4000 false [.code (bodyOf Try.f131)] (envOf [0, 1] [.inl true .held a0, .inl true .held a1]) [] = laws_eqHeldS k a0 a1 := by kernel_rfl
theorem ok_laws_eqHeldS (k : Nat) : SummOk Try.prog cod 131 (S_laws_eqHeldS k) := by
  refine summ_of (T := T) Try.f131 (G_laws_eqHeldS) L_laws_eqHeldS false [.tmp 4] 0 D_laws_eqHeldS mixed (fun k => Known.of tok eok codOk ?_) (fun k => QuietOk.of ?_) Try.func131 (by kernel_rfl) (by kernel_rfl) (by kernel_rfl) (by kernel_rfl) (by kernel_rfl) ?_ ?_ [] ?_
  · exact all_cons (ok_laws_eqHeld k) (all_nil)
  · exact all_cons (fun h r => ⟨rfl, rfl⟩) (all_nil)
  · intro v os r h
    unfold D_laws_eqHeldS at h
    split at h <;> first | (cases h; rfl) | cases h
  · refine all_cons ?_ (all_nil)
    · refine ⟨fun vs os => ?_, by kernel_rfl, fun k vs os r h => ?_⟩
      · show C_laws_eqHeldS_4.fn 0 vs os = none
        unfold C_laws_eqHeldS_4; dsimp only; split <;> rfl
      · change C_laws_eqHeldS_4.fn (k + 1) vs os = some r at h
        unfold C_laws_eqHeldS_4 at h; dsimp only at h
        split at h
        · exact ⟨4000, (c_laws_eqHeldS_4 k _ _ _).trans h⟩
        · cases h
  · intro args os r h
    change (S_laws_eqHeldS k).run args os = some r at h
    unfold S_laws_eqHeldS at h; dsimp only at h
    split at h
    · exact ⟨Nat.le_of_ble_eq_true (by kernel_rfl), rfl, rfl, k, 4000, (e_laws_eqHeldS k _ _).trans h⟩
    · cases h
noncomputable def S_laws_eqStringS (k : Nat) : Summ K TyK where
  R := Bool
  modes := [.bo, .bo]
  run := fun args objs => match args, objs with
    | [.inl true .str v1, .inl true .str v2], [] => laws_eqStringS k v1 v2
    | _, _ => none
  ret := fun r => (.lit (.bool r), [])
  quiet := true
noncomputable def D_laws_eqStringS (v : V) (os : Objs K TyK) : Option (Bool) :=
  match v, os with
  | .lit (.bool v1), [] => some v1
  | _, _ => none
noncomputable def C_laws_eqStringS_4 : Cut K TyK (Bool) where
  slots := [0, 1, 5]
  fn := fun k vs os => match vs, os with
    | [.inl true .str x0, .inl true .str x1, .lit (.int .i64 x2)], [] => laws_eqStringS_l4 k x0 x1 x2
    | _, _ => none
noncomputable abbrev G_laws_eqStringS (k : Nat) : FuncId → Option (Summ K TyK) := lookT []
noncomputable abbrev L_laws_eqStringS : List (Nat × Cut K TyK (Bool)) := [(4, C_laws_eqStringS_4)]
theorem c_laws_eqStringS_4 (k : Nat) (x0 : List ByteArray) (x1 : List ByteArray) (x2 : Int) : run cod T (G_laws_eqStringS k) (lam L_laws_eqStringS k) (cutsOf L_laws_eqStringS) 0 (finish cod T false 0 [.tmp 4] D_laws_eqStringS) 4000 true (todoAt 4 (bodyOf Try.f132)) (envOf [0, 1, 5] [.inl true .str x0, .inl true .str x1, .lit (.int .i64 x2)]) [] = laws_eqStringS_l4 (k + 1) x0 x1 x2 := by kernel_rfl
theorem e_laws_eqStringS (k : Nat) (a0 : List ByteArray) (a1 : List ByteArray) : run cod T (G_laws_eqStringS k) (lam L_laws_eqStringS k) (cutsOf L_laws_eqStringS) 0 (finish cod T false 0 [.tmp 4] D_laws_eqStringS) 4000 false [.code (bodyOf Try.f132)] (envOf [0, 1] [.inl true .str a0, .inl true .str a1]) [] = laws_eqStringS k a0 a1 := by kernel_rfl
theorem ok_laws_eqStringS (k : Nat) : SummOk Try.prog cod 132 (S_laws_eqStringS k) := by
  refine summ_of (T := T) Try.f132 (G_laws_eqStringS) L_laws_eqStringS false [.tmp 4] 0 D_laws_eqStringS mixed (fun k => Known.of tok eok codOk ?_) (fun k => QuietOk.of ?_) Try.func132 (by kernel_rfl) (by kernel_rfl) (by kernel_rfl) (by kernel_rfl) (by kernel_rfl) ?_ ?_ [] ?_
  · exact all_nil
  · exact all_nil
  · intro v os r h
    unfold D_laws_eqStringS at h
    split at h <;> first | (cases h; rfl) | cases h
  · refine all_cons ?_ (all_nil)
    · refine ⟨fun vs os => ?_, by kernel_rfl, fun k vs os r h => ?_⟩
      · show C_laws_eqStringS_4.fn 0 vs os = none
        unfold C_laws_eqStringS_4; dsimp only; split <;> rfl
      · change C_laws_eqStringS_4.fn (k + 1) vs os = some r at h
        unfold C_laws_eqStringS_4 at h; dsimp only at h
        split at h
        · exact ⟨4000, (c_laws_eqStringS_4 k _ _ _).trans h⟩
        · cases h
  · intro args os r h
    change (S_laws_eqStringS k).run args os = some r at h
    unfold S_laws_eqStringS at h; dsimp only at h
    split at h
    · exact ⟨Nat.le_of_ble_eq_true (by kernel_rfl), rfl, rfl, k, 4000, (e_laws_eqStringS k _ _).trans h⟩
    · cases h
noncomputable def S_laws_eqTake (k : Nat) : Summ K TyK where
  R := Bool
  modes := [.bo, .bo]
  run := fun args objs => match args, objs with
    | [.agg [.lit (.int .i64 v1), .inl true .held v2, .lit (.string v3), .inl true .str v4], .agg [.lit (.int .i64 v5), .inl true .held v6, .lit (.string v7), .inl true .str v8]], [] => laws_eqTake k (⟨v1, v2, v3, v4⟩ : DTake) (⟨v5, v6, v7, v8⟩ : DTake)
    | _, _ => none
  ret := fun r => (.lit (.bool r), [])
  quiet := true
noncomputable def D_laws_eqTake (v : V) (os : Objs K TyK) : Option (Bool) :=
  match v, os with
  | .lit (.bool v1), [] => some v1
  | _, _ => none
noncomputable abbrev G_laws_eqTake (k : Nat) : FuncId → Option (Summ K TyK) := lookT [(131, S_laws_eqHeldS k), (132, S_laws_eqStringS k)]
noncomputable abbrev L_laws_eqTake : List (Nat × Cut K TyK (Bool)) := []
theorem e_laws_eqTake (k : Nat) (a0 : DTake) (a1 : DTake) : run cod T (G_laws_eqTake k) (lam L_laws_eqTake k) (cutsOf L_laws_eqTake) 0 (finish cod T false 0 [.tmp 4] D_laws_eqTake) 4000 false [.code (bodyOf Try.f64)] (envOf [0, 1] [.agg [.lit (.int .i64 a0.Next), .inl true .held a0.Held, .lit (.string a0.Open), .inl true .str a0.Ready], .agg [.lit (.int .i64 a1.Next), .inl true .held a1.Held, .lit (.string a1.Open), .inl true .str a1.Ready]]) [] = laws_eqTake k a0 a1 := by kernel_rfl
theorem ok_laws_eqTake (k : Nat) : SummOk Try.prog cod 64 (S_laws_eqTake k) := by
  refine summ_of (T := T) Try.f64 (G_laws_eqTake) L_laws_eqTake false [.tmp 4] 0 D_laws_eqTake mixed (fun k => Known.of tok eok codOk ?_) (fun k => QuietOk.of ?_) Try.func64 (by kernel_rfl) (by kernel_rfl) (by kernel_rfl) (by kernel_rfl) (by kernel_rfl) ?_ ?_ [] ?_
  · exact all_cons (ok_laws_eqHeldS k) (all_cons (ok_laws_eqStringS k) (all_nil))
  · exact all_cons (fun h r => ⟨rfl, rfl⟩) (all_cons (fun h r => ⟨rfl, rfl⟩) (all_nil))
  · intro v os r h
    unfold D_laws_eqTake at h
    split at h <;> first | (cases h; rfl) | cases h
  · refine all_nil
  · intro args os r h
    change (S_laws_eqTake k).run args os = some r at h
    unfold S_laws_eqTake at h; dsimp only at h
    split at h
    · exact ⟨Nat.le_of_ble_eq_true (by kernel_rfl), rfl, rfl, k, 4000, (e_laws_eqTake k ⟨_, _, _, _⟩ ⟨_, _, _, _⟩).trans h⟩
    · cases h
noncomputable def S_laws_eqEnd (k : Nat) : Summ K TyK where
  R := Bool
  modes := [.bo, .bo]
  run := fun args objs => match args, objs with
    | [.agg [.lit (.int .i64 v1), .lit (.bool v2), .lit (.int .i64 v3), .lit (.int .i64 v4), .lit (.int .i64 v5), .lit (.bool v6), .lit (.int .i64 v7), .inl true .item v8, .lit (.int .i64 v9), .inl true .held v10, .lit (.string v11), .inl true .str v12], .agg [.lit (.int .i64 v13), .lit (.bool v14), .lit (.int .i64 v15), .lit (.int .i64 v16), .lit (.int .i64 v17), .lit (.bool v18), .lit (.int .i64 v19), .inl true .item v20, .lit (.int .i64 v21), .inl true .held v22, .lit (.string v23), .inl true .str v24]], [] => laws_eqEnd k (⟨v1, v2, v3, v4, v5, v6, (⟨v7, v8⟩ : DSend), (⟨v9, v10, v11, v12⟩ : DTake)⟩ : DEnd) (⟨v13, v14, v15, v16, v17, v18, (⟨v19, v20⟩ : DSend), (⟨v21, v22, v23, v24⟩ : DTake)⟩ : DEnd)
    | _, _ => none
  ret := fun r => (.lit (.bool r), [])
  quiet := true
noncomputable def D_laws_eqEnd (v : V) (os : Objs K TyK) : Option (Bool) :=
  match v, os with
  | .lit (.bool v1), [] => some v1
  | _, _ => none
noncomputable abbrev G_laws_eqEnd (k : Nat) : FuncId → Option (Summ K TyK) := lookT [(63, S_laws_eqSend k), (64, S_laws_eqTake k)]
noncomputable abbrev L_laws_eqEnd : List (Nat × Cut K TyK (Bool)) := []
theorem e_laws_eqEnd (k : Nat) (a0 : DEnd) (a1 : DEnd) : run cod T (G_laws_eqEnd k) (lam L_laws_eqEnd k) (cutsOf L_laws_eqEnd) 0 (finish cod T false 0 [.tmp 4] D_laws_eqEnd) 4000 false [.code (bodyOf Try.f17)] (envOf [0, 1] [.agg [.lit (.int .i64 a0.Number), .lit (.bool a0.Up), .lit (.int .i64 a0.Life), .lit (.int .i64 a0.Peer), .lit (.int .i64 a0.Since), .lit (.bool a0.Owes), .lit (.int .i64 a0.Send.Base), .inl true .item a0.Send.Items, .lit (.int .i64 a0.Take.Next), .inl true .held a0.Take.Held, .lit (.string a0.Take.Open), .inl true .str a0.Take.Ready], .agg [.lit (.int .i64 a1.Number), .lit (.bool a1.Up), .lit (.int .i64 a1.Life), .lit (.int .i64 a1.Peer), .lit (.int .i64 a1.Since), .lit (.bool a1.Owes), .lit (.int .i64 a1.Send.Base), .inl true .item a1.Send.Items, .lit (.int .i64 a1.Take.Next), .inl true .held a1.Take.Held, .lit (.string a1.Take.Open), .inl true .str a1.Take.Ready]]) [] = laws_eqEnd k a0 a1 := by kernel_rfl
theorem ok_laws_eqEnd (k : Nat) : SummOk Try.prog cod 17 (S_laws_eqEnd k) := by
  refine summ_of (T := T) Try.f17 (G_laws_eqEnd) L_laws_eqEnd false [.tmp 4] 0 D_laws_eqEnd mixed (fun k => Known.of tok eok codOk ?_) (fun k => QuietOk.of ?_) Try.func17 (by kernel_rfl) (by kernel_rfl) (by kernel_rfl) (by kernel_rfl) (by kernel_rfl) ?_ ?_ [] ?_
  · exact all_cons (ok_laws_eqSend k) (all_cons (ok_laws_eqTake k) (all_nil))
  · exact all_cons (fun h r => ⟨rfl, rfl⟩) (all_cons (fun h r => ⟨rfl, rfl⟩) (all_nil))
  · intro v os r h
    unfold D_laws_eqEnd at h
    split at h <;> first | (cases h; rfl) | cases h
  · refine all_nil
  · intro args os r h
    change (S_laws_eqEnd k).run args os = some r at h
    unfold S_laws_eqEnd at h; dsimp only at h
    split at h
    · exact ⟨Nat.le_of_ble_eq_true (by kernel_rfl), rfl, rfl, k, 4000, (e_laws_eqEnd k ⟨_, _, _, _, _, _, ⟨_, _⟩, ⟨_, _, _, _⟩⟩ ⟨_, _, _, _, _, _, ⟨_, _⟩, ⟨_, _, _, _⟩⟩).trans h⟩
    · cases h
noncomputable def S_laws_eqPacket (k : Nat) : Summ K TyK where
  R := Bool
  modes := [.bo, .bo]
  run := fun args objs => match args, objs with
    | [.agg [.lit (.int .i64 v1), .lit (.int .i64 v2), .lit (.int .i64 v3), .lit (.int .i64 v4), .lit (.int .i64 v5), .lit (.int .i64 v6), .lit (.int .i64 v7), .lit (.bool v8), .lit (.string v9)], .agg [.lit (.int .i64 v10), .lit (.int .i64 v11), .lit (.int .i64 v12), .lit (.int .i64 v13), .lit (.int .i64 v14), .lit (.int .i64 v15), .lit (.int .i64 v16), .lit (.bool v17), .lit (.string v18)]], [] => laws_eqPacket k (⟨v1, v2, v3, v4, v5, v6, v7, v8, v9⟩ : DPacket) (⟨v10, v11, v12, v13, v14, v15, v16, v17, v18⟩ : DPacket)
    | _, _ => none
  ret := fun r => (.lit (.bool r), [])
  quiet := true
noncomputable def D_laws_eqPacket (v : V) (os : Objs K TyK) : Option (Bool) :=
  match v, os with
  | .lit (.bool v1), [] => some v1
  | _, _ => none
noncomputable abbrev G_laws_eqPacket (k : Nat) : FuncId → Option (Summ K TyK) := lookT []
noncomputable abbrev L_laws_eqPacket : List (Nat × Cut K TyK (Bool)) := []
theorem e_laws_eqPacket (k : Nat) (a0 : DPacket) (a1 : DPacket) : run cod T (G_laws_eqPacket k) (lam L_laws_eqPacket k) (cutsOf L_laws_eqPacket) 0 (finish cod T false 0 [.tmp 4] D_laws_eqPacket) 4000 false [.code (bodyOf Try.f129)] (envOf [0, 1] [.agg [.lit (.int .i64 a0.Kind), .lit (.int .i64 a0.From), .lit (.int .i64 a0.Mine), .lit (.int .i64 a0.Yours), .lit (.int .i64 a0.Next), .lit (.int .i64 a0.Mask), .lit (.int .i64 a0.Seq), .lit (.bool a0.Last), .lit (.string a0.Part)], .agg [.lit (.int .i64 a1.Kind), .lit (.int .i64 a1.From), .lit (.int .i64 a1.Mine), .lit (.int .i64 a1.Yours), .lit (.int .i64 a1.Next), .lit (.int .i64 a1.Mask), .lit (.int .i64 a1.Seq), .lit (.bool a1.Last), .lit (.string a1.Part)]]) [] = laws_eqPacket k a0 a1 := by kernel_rfl
theorem ok_laws_eqPacket (k : Nat) : SummOk Try.prog cod 129 (S_laws_eqPacket k) := by
  refine summ_of (T := T) Try.f129 (G_laws_eqPacket) L_laws_eqPacket false [.tmp 4] 0 D_laws_eqPacket mixed (fun k => Known.of tok eok codOk ?_) (fun k => QuietOk.of ?_) Try.func129 (by kernel_rfl) (by kernel_rfl) (by kernel_rfl) (by kernel_rfl) (by kernel_rfl) ?_ ?_ [] ?_
  · exact all_nil
  · exact all_nil
  · intro v os r h
    unfold D_laws_eqPacket at h
    split at h <;> first | (cases h; rfl) | cases h
  · refine all_nil
  · intro args os r h
    change (S_laws_eqPacket k).run args os = some r at h
    unfold S_laws_eqPacket at h; dsimp only at h
    split at h
    · exact ⟨Nat.le_of_ble_eq_true (by kernel_rfl), rfl, rfl, k, 4000, (e_laws_eqPacket k ⟨_, _, _, _, _, _, _, _, _⟩ ⟨_, _, _, _, _, _, _, _, _⟩).trans h⟩
    · cases h
noncomputable def S_laws_eqPacketS (k : Nat) : Summ K TyK where
  R := Bool
  modes := [.bo, .bo]
  run := fun args objs => match args, objs with
    | [.inl true .packet v1, .inl true .packet v2], [] => laws_eqPacketS k v1 v2
    | _, _ => none
  ret := fun r => (.lit (.bool r), [])
  quiet := true
noncomputable def D_laws_eqPacketS (v : V) (os : Objs K TyK) : Option (Bool) :=
  match v, os with
  | .lit (.bool v1), [] => some v1
  | _, _ => none
noncomputable def C_laws_eqPacketS_4 : Cut K TyK (Bool) where
  slots := [0, 1, 5]
  fn := fun k vs os => match vs, os with
    | [.inl true .packet x0, .inl true .packet x1, .lit (.int .i64 x2)], [] => laws_eqPacketS_l4 k x0 x1 x2
    | _, _ => none
noncomputable abbrev G_laws_eqPacketS (k : Nat) : FuncId → Option (Summ K TyK) := lookT [(129, S_laws_eqPacket k)]
noncomputable abbrev L_laws_eqPacketS : List (Nat × Cut K TyK (Bool)) := [(4, C_laws_eqPacketS_4)]
theorem c_laws_eqPacketS_4 (k : Nat) (x0 : List DPacket) (x1 : List DPacket) (x2 : Int) : run cod T (G_laws_eqPacketS k) (lam L_laws_eqPacketS k) (cutsOf L_laws_eqPacketS) 0 (finish cod T false 0 [.tmp 4] D_laws_eqPacketS) 4000 true (todoAt 4 (bodyOf Try.f62)) (envOf [0, 1, 5] [.inl true .packet x0, .inl true .packet x1, .lit (.int .i64 x2)]) [] = laws_eqPacketS_l4 (k + 1) x0 x1 x2 := by kernel_rfl
theorem e_laws_eqPacketS (k : Nat) (a0 : List DPacket) (a1 : List DPacket) : run cod T (G_laws_eqPacketS k) (lam L_laws_eqPacketS k) (cutsOf L_laws_eqPacketS) 0 (finish cod T false 0 [.tmp 4] D_laws_eqPacketS) 4000 false [.code (bodyOf Try.f62)] (envOf [0, 1] [.inl true .packet a0, .inl true .packet a1]) [] = laws_eqPacketS k a0 a1 := by kernel_rfl
theorem ok_laws_eqPacketS (k : Nat) : SummOk Try.prog cod 62 (S_laws_eqPacketS k) := by
  refine summ_of (T := T) Try.f62 (G_laws_eqPacketS) L_laws_eqPacketS false [.tmp 4] 0 D_laws_eqPacketS mixed (fun k => Known.of tok eok codOk ?_) (fun k => QuietOk.of ?_) Try.func62 (by kernel_rfl) (by kernel_rfl) (by kernel_rfl) (by kernel_rfl) (by kernel_rfl) ?_ ?_ [] ?_
  · exact all_cons (ok_laws_eqPacket k) (all_nil)
  · exact all_cons (fun h r => ⟨rfl, rfl⟩) (all_nil)
  · intro v os r h
    unfold D_laws_eqPacketS at h
    split at h <;> first | (cases h; rfl) | cases h
  · refine all_cons ?_ (all_nil)
    · refine ⟨fun vs os => ?_, by kernel_rfl, fun k vs os r h => ?_⟩
      · show C_laws_eqPacketS_4.fn 0 vs os = none
        unfold C_laws_eqPacketS_4; dsimp only; split <;> rfl
      · change C_laws_eqPacketS_4.fn (k + 1) vs os = some r at h
        unfold C_laws_eqPacketS_4 at h; dsimp only at h
        split at h
        · exact ⟨4000, (c_laws_eqPacketS_4 k _ _ _).trans h⟩
        · cases h
  · intro args os r h
    change (S_laws_eqPacketS k).run args os = some r at h
    unfold S_laws_eqPacketS at h; dsimp only at h
    split at h
    · exact ⟨Nat.le_of_ble_eq_true (by kernel_rfl), rfl, rfl, k, 4000, (e_laws_eqPacketS k _ _).trans h⟩
    · cases h
noncomputable def S_laws_eqActed (k : Nat) : Summ K TyK where
  R := Bool
  modes := [.bo, .bo]
  run := fun args objs => match args, objs with
    | [.agg [.lit (.int .i64 v1), .lit (.int .i64 v2), .lit (.bool v3), .lit (.int .i64 v4), .lit (.int .i64 v5), .lit (.int .i64 v6), .lit (.bool v7), .lit (.int .i64 v8), .inl true .item v9, .lit (.int .i64 v10), .inl true .held v11, .lit (.string v12), .inl true .str v13, .inl true .packet v14, .lit (.string v15)], .agg [.lit (.int .i64 v16), .lit (.int .i64 v17), .lit (.bool v18), .lit (.int .i64 v19), .lit (.int .i64 v20), .lit (.int .i64 v21), .lit (.bool v22), .lit (.int .i64 v23), .inl true .item v24, .lit (.int .i64 v25), .inl true .held v26, .lit (.string v27), .inl true .str v28, .inl true .packet v29, .lit (.string v30)]], [] => laws_eqActed k (⟨v1, (⟨v2, v3, v4, v5, v6, v7, (⟨v8, v9⟩ : DSend), (⟨v10, v11, v12, v13⟩ : DTake)⟩ : DEnd), v14, v15⟩ : DActed) (⟨v16, (⟨v17, v18, v19, v20, v21, v22, (⟨v23, v24⟩ : DSend), (⟨v25, v26, v27, v28⟩ : DTake)⟩ : DEnd), v29, v30⟩ : DActed)
    | _, _ => none
  ret := fun r => (.lit (.bool r), [])
  quiet := true
noncomputable def D_laws_eqActed (v : V) (os : Objs K TyK) : Option (Bool) :=
  match v, os with
  | .lit (.bool v1), [] => some v1
  | _, _ => none
noncomputable abbrev G_laws_eqActed (k : Nat) : FuncId → Option (Summ K TyK) := lookT [(17, S_laws_eqEnd k), (62, S_laws_eqPacketS k)]
noncomputable abbrev L_laws_eqActed : List (Nat × Cut K TyK (Bool)) := []
theorem e_laws_eqActed (k : Nat) (a0 : DActed) (a1 : DActed) : run cod T (G_laws_eqActed k) (lam L_laws_eqActed k) (cutsOf L_laws_eqActed) 0 (finish cod T false 0 [.tmp 4] D_laws_eqActed) 4000 false [.code (bodyOf Try.f16)] (envOf [0, 1] [.agg [.lit (.int .i64 a0.Code), .lit (.int .i64 a0.End.Number), .lit (.bool a0.End.Up), .lit (.int .i64 a0.End.Life), .lit (.int .i64 a0.End.Peer), .lit (.int .i64 a0.End.Since), .lit (.bool a0.End.Owes), .lit (.int .i64 a0.End.Send.Base), .inl true .item a0.End.Send.Items, .lit (.int .i64 a0.End.Take.Next), .inl true .held a0.End.Take.Held, .lit (.string a0.End.Take.Open), .inl true .str a0.End.Take.Ready, .inl true .packet a0.Out, .lit (.string a0.Text)], .agg [.lit (.int .i64 a1.Code), .lit (.int .i64 a1.End.Number), .lit (.bool a1.End.Up), .lit (.int .i64 a1.End.Life), .lit (.int .i64 a1.End.Peer), .lit (.int .i64 a1.End.Since), .lit (.bool a1.End.Owes), .lit (.int .i64 a1.End.Send.Base), .inl true .item a1.End.Send.Items, .lit (.int .i64 a1.End.Take.Next), .inl true .held a1.End.Take.Held, .lit (.string a1.End.Take.Open), .inl true .str a1.End.Take.Ready, .inl true .packet a1.Out, .lit (.string a1.Text)]]) [] = laws_eqActed k a0 a1 := by kernel_rfl
theorem ok_laws_eqActed (k : Nat) : SummOk Try.prog cod 16 (S_laws_eqActed k) := by
  refine summ_of (T := T) Try.f16 (G_laws_eqActed) L_laws_eqActed false [.tmp 4] 0 D_laws_eqActed mixed (fun k => Known.of tok eok codOk ?_) (fun k => QuietOk.of ?_) Try.func16 (by kernel_rfl) (by kernel_rfl) (by kernel_rfl) (by kernel_rfl) (by kernel_rfl) ?_ ?_ [] ?_
  · exact all_cons (ok_laws_eqEnd k) (all_cons (ok_laws_eqPacketS k) (all_nil))
  · exact all_cons (fun h r => ⟨rfl, rfl⟩) (all_cons (fun h r => ⟨rfl, rfl⟩) (all_nil))
  · intro v os r h
    unfold D_laws_eqActed at h
    split at h <;> first | (cases h; rfl) | cases h
  · refine all_nil
  · intro args os r h
    change (S_laws_eqActed k).run args os = some r at h
    unfold S_laws_eqActed at h; dsimp only at h
    split at h
    · exact ⟨Nat.le_of_ble_eq_true (by kernel_rfl), rfl, rfl, k, 4000, (e_laws_eqActed k ⟨_, ⟨_, _, _, _, _, _, ⟨_, _⟩, ⟨_, _, _, _⟩⟩, _, _⟩ ⟨_, ⟨_, _, _, _, _, _, ⟨_, _⟩, ⟨_, _, _, _⟩⟩, _, _⟩).trans h⟩
    · cases h
noncomputable def S_laws_markText (k : Nat) : Summ K TyK where
  R := ByteArray
  modes := [.bo]
  run := fun args objs => match args, objs with
    | [.lit (.int .i64 v1)], [] => laws_markText k v1
    | _, _ => none
  ret := fun r => (.lit (.string r), [])
  quiet := true
noncomputable def D_laws_markText (v : V) (os : Objs K TyK) : Option (ByteArray) :=
  match v, os with
  | .lit (.string v1), [] => some v1
  | _, _ => none
noncomputable def C_laws_markText_4 : Cut K TyK (ByteArray) where
  slots := [0, 3]
  fn := fun k vs os => match vs, os with
    | [.lit (.int .i64 x0), .lit (.string x1)], [] => laws_markText_l4 k x0 x1
    | _, _ => none
noncomputable abbrev G_laws_markText (k : Nat) : FuncId → Option (Summ K TyK) := lookT []
noncomputable abbrev L_laws_markText : List (Nat × Cut K TyK (ByteArray)) := [(4, C_laws_markText_4)]
theorem c_laws_markText_4 (k : Nat) (x0 : Int) (x1 : ByteArray) : run cod T (G_laws_markText k) (lam L_laws_markText k) (cutsOf L_laws_markText) 0 (finish cod T false 0 [.tmp 2] D_laws_markText) 4000 true (todoAt 4 (bodyOf Try.f136)) (envOf [0, 3] [.lit (.int .i64 x0), .lit (.string x1)]) [] = laws_markText_l4 (k + 1) x0 x1 := by kernel_rfl
theorem e_laws_markText (k : Nat) (a0 : Int) : run cod T (G_laws_markText k) (lam L_laws_markText k) (cutsOf L_laws_markText) 0 (finish cod T false 0 [.tmp 2] D_laws_markText) 4000 false [.code (bodyOf Try.f136)] (envOf [0] [.lit (.int .i64 a0)]) [] = laws_markText k a0 := by kernel_rfl
theorem ok_laws_markText (k : Nat) : SummOk Try.prog cod 136 (S_laws_markText k) := by
  refine summ_of (T := T) Try.f136 (G_laws_markText) L_laws_markText false [.tmp 2] 0 D_laws_markText mixed (fun k => Known.of tok eok codOk ?_) (fun k => QuietOk.of ?_) Try.func136 (by kernel_rfl) (by kernel_rfl) (by kernel_rfl) (by kernel_rfl) (by kernel_rfl) ?_ ?_ [] ?_
  · exact all_nil
  · exact all_nil
  · intro v os r h
    unfold D_laws_markText at h
    split at h <;> first | (cases h; rfl) | cases h
  · refine all_cons ?_ (all_nil)
    · refine ⟨fun vs os => ?_, by kernel_rfl, fun k vs os r h => ?_⟩
      · show C_laws_markText_4.fn 0 vs os = none
        unfold C_laws_markText_4; dsimp only; split <;> rfl
      · change C_laws_markText_4.fn (k + 1) vs os = some r at h
        unfold C_laws_markText_4 at h; dsimp only at h
        split at h
        · exact ⟨4000, (c_laws_markText_4 k _ _).trans h⟩
        · cases h
  · intro args os r h
    change (S_laws_markText k).run args os = some r at h
    unfold S_laws_markText at h; dsimp only at h
    split at h
    · exact ⟨Nat.le_of_ble_eq_true (by kernel_rfl), rfl, rfl, k, 4000, (e_laws_markText k _).trans h⟩
    · cases h
noncomputable def S_laws_markItemS (k : Nat) : Summ K TyK where
  R := Int × List DItem
  modes := [.mv, .mv]
  run := fun args objs => match args, objs with
    | [.own 0, .lit (.int .i64 v1)], [.sl .item v2] => laws_markItemS k v2 v1
    | _, _ => none
  ret := fun r => (.lit (.int .i64 r.1), [.sl .item r.2])
  quiet := false
noncomputable def D_laws_markItemS (v : V) (os : Objs K TyK) : Option (Int × List DItem) :=
  match v, os with
  | .lit (.int .i64 v1), [.sl .item v2] => some (v1, v2)
  | _, _ => none
noncomputable def C_laws_markItemS_2 : Cut K TyK (Int × List DItem) where
  slots := [0, 1, 5]
  fn := fun k vs os => match vs, os with
    | [.own 0, .lit (.int .i64 x0), .lit (.int .i64 x1)], [.sl .item x2] => laws_markItemS_l2 k x0 x1 x2
    | _, _ => none
noncomputable abbrev G_laws_markItemS (k : Nat) : FuncId → Option (Summ K TyK) := lookT [(136, S_laws_markText k)]
noncomputable abbrev L_laws_markItemS : List (Nat × Cut K TyK (Int × List DItem)) := [(2, C_laws_markItemS_2)]
theorem c_laws_markItemS_2 (k : Nat) (x0 : Int) (x1 : Int) (x2 : List DItem) : run cod T (G_laws_markItemS k) (lam L_laws_markItemS k) (cutsOf L_laws_markItemS) 1 (finish cod T false 1 [.tmp 4] D_laws_markItemS) 4000 true (todoAt 2 (bodyOf Try.f133)) (envOf [0, 1, 5] [.own 0, .lit (.int .i64 x0), .lit (.int .i64 x1)]) [.sl .item x2] = laws_markItemS_l2 (k + 1) x0 x1 x2 := by kernel_rfl
theorem e_laws_markItemS (k : Nat) (a0 : List DItem) (a1 : Int) : run cod T (G_laws_markItemS k) (lam L_laws_markItemS k) (cutsOf L_laws_markItemS) 1 (finish cod T false 1 [.tmp 4] D_laws_markItemS) 4000 false [.code (bodyOf Try.f133)] (envOf [0, 1] [.own 0, .lit (.int .i64 a1)]) [.sl .item a0] = laws_markItemS k a0 a1 := by kernel_rfl
theorem ok_laws_markItemS (k : Nat) : SummOk Try.prog cod 133 (S_laws_markItemS k) := by
  refine summ_of (T := T) Try.f133 (G_laws_markItemS) L_laws_markItemS false [.tmp 4] 1 D_laws_markItemS mixed (fun k => Known.of tok eok codOk ?_) (fun k => QuietOk.of ?_) Try.func133 (by kernel_rfl) (by kernel_rfl) (by kernel_rfl) (by kernel_rfl) (by kernel_rfl) ?_ ?_ [false] ?_
  · exact all_cons (ok_laws_markText k) (all_nil)
  · exact all_cons (fun h r => ⟨rfl, rfl⟩) (all_nil)
  · intro v os r h
    unfold D_laws_markItemS at h
    split at h <;> first | (cases h; rfl) | cases h
  · refine all_cons ?_ (all_nil)
    · refine ⟨fun vs os => ?_, by kernel_rfl, fun k vs os r h => ?_⟩
      · show C_laws_markItemS_2.fn 0 vs os = none
        unfold C_laws_markItemS_2; dsimp only; split <;> rfl
      · change C_laws_markItemS_2.fn (k + 1) vs os = some r at h
        unfold C_laws_markItemS_2 at h; dsimp only at h
        split at h
        · exact ⟨4000, (c_laws_markItemS_2 k _ _ _).trans h⟩
        · cases h
  · intro args os r h
    change (S_laws_markItemS k).run args os = some r at h
    unfold S_laws_markItemS at h; dsimp only at h
    split at h
    · exact ⟨Nat.le_of_ble_eq_true (by kernel_rfl), rfl, rfl, k, 4000, (e_laws_markItemS k _ _).trans h⟩
    · cases h
noncomputable def S_laws_markSend (k : Nat) : Summ K TyK where
  R := Int × List DItem
  modes := [.mv, .mv]
  run := fun args objs => match args, objs with
    | [.agg [.lit (.int .i64 v1), .own 0], .lit (.int .i64 v2)], [.sl .item v3] => laws_markSend k (⟨v1, v3⟩ : DSend) v2
    | _, _ => none
  ret := fun r => (.lit (.int .i64 r.1), [.sl .item r.2])
  quiet := false
noncomputable def D_laws_markSend (v : V) (os : Objs K TyK) : Option (Int × List DItem) :=
  match v, os with
  | .lit (.int .i64 v1), [.sl .item v2] => some (v1, v2)
  | _, _ => none
noncomputable abbrev G_laws_markSend (k : Nat) : FuncId → Option (Summ K TyK) := lookT [(133, S_laws_markItemS k)]
noncomputable abbrev L_laws_markSend : List (Nat × Cut K TyK (Int × List DItem)) := []
theorem e_laws_markSend (k : Nat) (a0 : DSend) (a1 : Int) : run cod T (G_laws_markSend k) (lam L_laws_markSend k) (cutsOf L_laws_markSend) 1 (finish cod T false 1 [.tmp 4] D_laws_markSend) 4000 false [.code (bodyOf Try.f65)] (envOf [0, 1] [.agg [.lit (.int .i64 a0.Base), .own 0], .lit (.int .i64 a1)]) [.sl .item a0.Items] = laws_markSend k a0 a1 := by kernel_rfl
theorem ok_laws_markSend (k : Nat) : SummOk Try.prog cod 65 (S_laws_markSend k) := by
  refine summ_of (T := T) Try.f65 (G_laws_markSend) L_laws_markSend false [.tmp 4] 1 D_laws_markSend mixed (fun k => Known.of tok eok codOk ?_) (fun k => QuietOk.of ?_) Try.func65 (by kernel_rfl) (by kernel_rfl) (by kernel_rfl) (by kernel_rfl) (by kernel_rfl) ?_ ?_ [false] ?_
  · exact all_cons (ok_laws_markItemS k) (all_nil)
  · exact all_cons (fun h r => by cases h) (all_nil)
  · intro v os r h
    unfold D_laws_markSend at h
    split at h <;> first | (cases h; rfl) | cases h
  · refine all_nil
  · intro args os r h
    change (S_laws_markSend k).run args os = some r at h
    unfold S_laws_markSend at h; dsimp only at h
    split at h
    · exact ⟨Nat.le_of_ble_eq_true (by kernel_rfl), rfl, rfl, k, 4000, (e_laws_markSend k ⟨_, _⟩ _).trans h⟩
    · cases h
noncomputable def S_laws_markHeldS (k : Nat) : Summ K TyK where
  R := Int × List DHeld
  modes := [.mv, .mv]
  run := fun args objs => match args, objs with
    | [.own 0, .lit (.int .i64 v1)], [.sl .held v2] => laws_markHeldS k v2 v1
    | _, _ => none
  ret := fun r => (.lit (.int .i64 r.1), [.sl .held r.2])
  quiet := false
noncomputable def D_laws_markHeldS (v : V) (os : Objs K TyK) : Option (Int × List DHeld) :=
  match v, os with
  | .lit (.int .i64 v1), [.sl .held v2] => some (v1, v2)
  | _, _ => none
noncomputable def C_laws_markHeldS_2 : Cut K TyK (Int × List DHeld) where
  slots := [0, 1, 5]
  fn := fun k vs os => match vs, os with
    | [.own 0, .lit (.int .i64 x0), .lit (.int .i64 x1)], [.sl .held x2] => laws_markHeldS_l2 k x0 x1 x2
    | _, _ => none
noncomputable abbrev G_laws_markHeldS (k : Nat) : FuncId → Option (Summ K TyK) := lookT [(136, S_laws_markText k)]
noncomputable abbrev L_laws_markHeldS : List (Nat × Cut K TyK (Int × List DHeld)) := [(2, C_laws_markHeldS_2)]
theorem c_laws_markHeldS_2 (k : Nat) (x0 : Int) (x1 : Int) (x2 : List DHeld) : run cod T (G_laws_markHeldS k) (lam L_laws_markHeldS k) (cutsOf L_laws_markHeldS) 1 (finish cod T false 1 [.tmp 4] D_laws_markHeldS) 4000 true (todoAt 2 (bodyOf Try.f134)) (envOf [0, 1, 5] [.own 0, .lit (.int .i64 x0), .lit (.int .i64 x1)]) [.sl .held x2] = laws_markHeldS_l2 (k + 1) x0 x1 x2 := by kernel_rfl
theorem e_laws_markHeldS (k : Nat) (a0 : List DHeld) (a1 : Int) : run cod T (G_laws_markHeldS k) (lam L_laws_markHeldS k) (cutsOf L_laws_markHeldS) 1 (finish cod T false 1 [.tmp 4] D_laws_markHeldS) 4000 false [.code (bodyOf Try.f134)] (envOf [0, 1] [.own 0, .lit (.int .i64 a1)]) [.sl .held a0] = laws_markHeldS k a0 a1 := by kernel_rfl
theorem ok_laws_markHeldS (k : Nat) : SummOk Try.prog cod 134 (S_laws_markHeldS k) := by
  refine summ_of (T := T) Try.f134 (G_laws_markHeldS) L_laws_markHeldS false [.tmp 4] 1 D_laws_markHeldS mixed (fun k => Known.of tok eok codOk ?_) (fun k => QuietOk.of ?_) Try.func134 (by kernel_rfl) (by kernel_rfl) (by kernel_rfl) (by kernel_rfl) (by kernel_rfl) ?_ ?_ [false] ?_
  · exact all_cons (ok_laws_markText k) (all_nil)
  · exact all_cons (fun h r => ⟨rfl, rfl⟩) (all_nil)
  · intro v os r h
    unfold D_laws_markHeldS at h
    split at h <;> first | (cases h; rfl) | cases h
  · refine all_cons ?_ (all_nil)
    · refine ⟨fun vs os => ?_, by kernel_rfl, fun k vs os r h => ?_⟩
      · show C_laws_markHeldS_2.fn 0 vs os = none
        unfold C_laws_markHeldS_2; dsimp only; split <;> rfl
      · change C_laws_markHeldS_2.fn (k + 1) vs os = some r at h
        unfold C_laws_markHeldS_2 at h; dsimp only at h
        split at h
        · exact ⟨4000, (c_laws_markHeldS_2 k _ _ _).trans h⟩
        · cases h
  · intro args os r h
    change (S_laws_markHeldS k).run args os = some r at h
    unfold S_laws_markHeldS at h; dsimp only at h
    split at h
    · exact ⟨Nat.le_of_ble_eq_true (by kernel_rfl), rfl, rfl, k, 4000, (e_laws_markHeldS k _ _).trans h⟩
    · cases h
noncomputable def S_laws_markStringS (k : Nat) : Summ K TyK where
  R := Int × List ByteArray
  modes := [.mv, .mv]
  run := fun args objs => match args, objs with
    | [.own 0, .lit (.int .i64 v1)], [.sl .str v2] => laws_markStringS k v2 v1
    | _, _ => none
  ret := fun r => (.lit (.int .i64 r.1), [.sl .str r.2])
  quiet := false
noncomputable def D_laws_markStringS (v : V) (os : Objs K TyK) : Option (Int × List ByteArray) :=
  match v, os with
  | .lit (.int .i64 v1), [.sl .str v2] => some (v1, v2)
  | _, _ => none
noncomputable def C_laws_markStringS_2 : Cut K TyK (Int × List ByteArray) where
  slots := [0, 1, 5]
  fn := fun k vs os => match vs, os with
    | [.own 0, .lit (.int .i64 x0), .lit (.int .i64 x1)], [.sl .str x2] => laws_markStringS_l2 k x0 x1 x2
    | _, _ => none
noncomputable abbrev G_laws_markStringS (k : Nat) : FuncId → Option (Summ K TyK) := lookT [(136, S_laws_markText k)]
noncomputable abbrev L_laws_markStringS : List (Nat × Cut K TyK (Int × List ByteArray)) := [(2, C_laws_markStringS_2)]
theorem c_laws_markStringS_2 (k : Nat) (x0 : Int) (x1 : Int) (x2 : List ByteArray) : run cod T (G_laws_markStringS k) (lam L_laws_markStringS k) (cutsOf L_laws_markStringS) 1 (finish cod T false 1 [.tmp 4] D_laws_markStringS) 4000 true (todoAt 2 (bodyOf Try.f135)) (envOf [0, 1, 5] [.own 0, .lit (.int .i64 x0), .lit (.int .i64 x1)]) [.sl .str x2] = laws_markStringS_l2 (k + 1) x0 x1 x2 := by kernel_rfl
theorem e_laws_markStringS (k : Nat) (a0 : List ByteArray) (a1 : Int) : run cod T (G_laws_markStringS k) (lam L_laws_markStringS k) (cutsOf L_laws_markStringS) 1 (finish cod T false 1 [.tmp 4] D_laws_markStringS) 4000 false [.code (bodyOf Try.f135)] (envOf [0, 1] [.own 0, .lit (.int .i64 a1)]) [.sl .str a0] = laws_markStringS k a0 a1 := by kernel_rfl
theorem ok_laws_markStringS (k : Nat) : SummOk Try.prog cod 135 (S_laws_markStringS k) := by
  refine summ_of (T := T) Try.f135 (G_laws_markStringS) L_laws_markStringS false [.tmp 4] 1 D_laws_markStringS mixed (fun k => Known.of tok eok codOk ?_) (fun k => QuietOk.of ?_) Try.func135 (by kernel_rfl) (by kernel_rfl) (by kernel_rfl) (by kernel_rfl) (by kernel_rfl) ?_ ?_ [false] ?_
  · exact all_cons (ok_laws_markText k) (all_nil)
  · exact all_cons (fun h r => ⟨rfl, rfl⟩) (all_nil)
  · intro v os r h
    unfold D_laws_markStringS at h
    split at h <;> first | (cases h; rfl) | cases h
  · refine all_cons ?_ (all_nil)
    · refine ⟨fun vs os => ?_, by kernel_rfl, fun k vs os r h => ?_⟩
      · show C_laws_markStringS_2.fn 0 vs os = none
        unfold C_laws_markStringS_2; dsimp only; split <;> rfl
      · change C_laws_markStringS_2.fn (k + 1) vs os = some r at h
        unfold C_laws_markStringS_2 at h; dsimp only at h
        split at h
        · exact ⟨4000, (c_laws_markStringS_2 k _ _ _).trans h⟩
        · cases h
  · intro args os r h
    change (S_laws_markStringS k).run args os = some r at h
    unfold S_laws_markStringS at h; dsimp only at h
    split at h
    · exact ⟨Nat.le_of_ble_eq_true (by kernel_rfl), rfl, rfl, k, 4000, (e_laws_markStringS k _ _).trans h⟩
    · cases h
noncomputable def S_laws_markTake (k : Nat) : Summ K TyK where
  R := Int × List DHeld × List ByteArray
  modes := [.mv, .mv]
  run := fun args objs => match args, objs with
    | [.agg [.lit (.int .i64 v1), .own 0, .lit (.string v2), .own 1], .lit (.int .i64 v3)], [.sl .held v4, .sl .str v5] => laws_markTake k (⟨v1, v4, v2, v5⟩ : DTake) v3
    | _, _ => none
  ret := fun r => (.lit (.int .i64 r.1), [.sl .held r.2.1, .sl .str r.2.2])
  quiet := false
noncomputable def D_laws_markTake (v : V) (os : Objs K TyK) : Option (Int × List DHeld × List ByteArray) :=
  match v, os with
  | .lit (.int .i64 v1), [.sl .held v2, .sl .str v3] => some (v1, v2, v3)
  | _, _ => none
noncomputable abbrev G_laws_markTake (k : Nat) : FuncId → Option (Summ K TyK) := lookT [(134, S_laws_markHeldS k), (135, S_laws_markStringS k)]
noncomputable abbrev L_laws_markTake : List (Nat × Cut K TyK (Int × List DHeld × List ByteArray)) := []
theorem e_laws_markTake (k : Nat) (a0 : DTake) (a1 : Int) : run cod T (G_laws_markTake k) (lam L_laws_markTake k) (cutsOf L_laws_markTake) 2 (finish cod T false 2 [.tmp 4] D_laws_markTake) 4000 false [.code (bodyOf Try.f66)] (envOf [0, 1] [.agg [.lit (.int .i64 a0.Next), .own 0, .lit (.string a0.Open), .own 1], .lit (.int .i64 a1)]) [.sl .held a0.Held, .sl .str a0.Ready] = laws_markTake k a0 a1 := by kernel_rfl
theorem ok_laws_markTake (k : Nat) : SummOk Try.prog cod 66 (S_laws_markTake k) := by
  refine summ_of (T := T) Try.f66 (G_laws_markTake) L_laws_markTake false [.tmp 4] 2 D_laws_markTake mixed (fun k => Known.of tok eok codOk ?_) (fun k => QuietOk.of ?_) Try.func66 (by kernel_rfl) (by kernel_rfl) (by kernel_rfl) (by kernel_rfl) (by kernel_rfl) ?_ ?_ [false, false] ?_
  · exact all_cons (ok_laws_markHeldS k) (all_cons (ok_laws_markStringS k) (all_nil))
  · exact all_cons (fun h r => by cases h) (all_cons (fun h r => by cases h) (all_nil))
  · intro v os r h
    unfold D_laws_markTake at h
    split at h <;> first | (cases h; rfl) | cases h
  · refine all_nil
  · intro args os r h
    change (S_laws_markTake k).run args os = some r at h
    unfold S_laws_markTake at h; dsimp only at h
    split at h
    · exact ⟨Nat.le_of_ble_eq_true (by kernel_rfl), rfl, rfl, k, 4000, (e_laws_markTake k ⟨_, _, _, _⟩ _).trans h⟩
    · cases h
noncomputable def S_laws_markEnd (k : Nat) : Summ K TyK where
  R := Int × List DItem × List DHeld × List ByteArray
  modes := [.mv, .mv]
  run := fun args objs => match args, objs with
    | [.agg [.lit (.int .i64 v1), .lit (.bool v2), .lit (.int .i64 v3), .lit (.int .i64 v4), .lit (.int .i64 v5), .lit (.bool v6), .lit (.int .i64 v7), .own 0, .lit (.int .i64 v8), .own 1, .lit (.string v9), .own 2], .lit (.int .i64 v10)], [.sl .item v11, .sl .held v12, .sl .str v13] => laws_markEnd k (⟨v1, v2, v3, v4, v5, v6, (⟨v7, v11⟩ : DSend), (⟨v8, v12, v9, v13⟩ : DTake)⟩ : DEnd) v10
    | _, _ => none
  ret := fun r => (.lit (.int .i64 r.1), [.sl .item r.2.1, .sl .held r.2.2.1, .sl .str r.2.2.2])
  quiet := false
noncomputable def D_laws_markEnd (v : V) (os : Objs K TyK) : Option (Int × List DItem × List DHeld × List ByteArray) :=
  match v, os with
  | .lit (.int .i64 v1), [.sl .item v2, .sl .held v3, .sl .str v4] => some (v1, v2, v3, v4)
  | _, _ => none
noncomputable abbrev G_laws_markEnd (k : Nat) : FuncId → Option (Summ K TyK) := lookT [(65, S_laws_markSend k), (66, S_laws_markTake k)]
noncomputable abbrev L_laws_markEnd : List (Nat × Cut K TyK (Int × List DItem × List DHeld × List ByteArray)) := []
theorem e_laws_markEnd (k : Nat) (a0 : DEnd) (a1 : Int) : run cod T (G_laws_markEnd k) (lam L_laws_markEnd k) (cutsOf L_laws_markEnd) 3 (finish cod T false 3 [.tmp 4] D_laws_markEnd) 4000 false [.code (bodyOf Try.f18)] (envOf [0, 1] [.agg [.lit (.int .i64 a0.Number), .lit (.bool a0.Up), .lit (.int .i64 a0.Life), .lit (.int .i64 a0.Peer), .lit (.int .i64 a0.Since), .lit (.bool a0.Owes), .lit (.int .i64 a0.Send.Base), .own 0, .lit (.int .i64 a0.Take.Next), .own 1, .lit (.string a0.Take.Open), .own 2], .lit (.int .i64 a1)]) [.sl .item a0.Send.Items, .sl .held a0.Take.Held, .sl .str a0.Take.Ready] = laws_markEnd k a0 a1 := by kernel_rfl
theorem ok_laws_markEnd (k : Nat) : SummOk Try.prog cod 18 (S_laws_markEnd k) := by
  refine summ_of (T := T) Try.f18 (G_laws_markEnd) L_laws_markEnd false [.tmp 4] 3 D_laws_markEnd mixed (fun k => Known.of tok eok codOk ?_) (fun k => QuietOk.of ?_) Try.func18 (by kernel_rfl) (by kernel_rfl) (by kernel_rfl) (by kernel_rfl) (by kernel_rfl) ?_ ?_ [false, false, false] ?_
  · exact all_cons (ok_laws_markSend k) (all_cons (ok_laws_markTake k) (all_nil))
  · exact all_cons (fun h r => by cases h) (all_cons (fun h r => by cases h) (all_nil))
  · intro v os r h
    unfold D_laws_markEnd at h
    split at h <;> first | (cases h; rfl) | cases h
  · refine all_nil
  · intro args os r h
    change (S_laws_markEnd k).run args os = some r at h
    unfold S_laws_markEnd at h; dsimp only at h
    split at h
    · exact ⟨Nat.le_of_ble_eq_true (by kernel_rfl), rfl, rfl, k, 4000, (e_laws_markEnd k ⟨_, _, _, _, _, _, ⟨_, _⟩, ⟨_, _, _, _⟩⟩ _).trans h⟩
    · cases h
noncomputable def S_laws_markPacketS (k : Nat) : Summ K TyK where
  R := Int × List DPacket
  modes := [.mv, .mv]
  run := fun args objs => match args, objs with
    | [.own 0, .lit (.int .i64 v1)], [.sl .packet v2] => laws_markPacketS k v2 v1
    | _, _ => none
  ret := fun r => (.lit (.int .i64 r.1), [.sl .packet r.2])
  quiet := false
noncomputable def D_laws_markPacketS (v : V) (os : Objs K TyK) : Option (Int × List DPacket) :=
  match v, os with
  | .lit (.int .i64 v1), [.sl .packet v2] => some (v1, v2)
  | _, _ => none
noncomputable def C_laws_markPacketS_2 : Cut K TyK (Int × List DPacket) where
  slots := [0, 1, 5]
  fn := fun k vs os => match vs, os with
    | [.own 0, .lit (.int .i64 x0), .lit (.int .i64 x1)], [.sl .packet x2] => laws_markPacketS_l2 k x0 x1 x2
    | _, _ => none
noncomputable abbrev G_laws_markPacketS (k : Nat) : FuncId → Option (Summ K TyK) := lookT [(136, S_laws_markText k)]
noncomputable abbrev L_laws_markPacketS : List (Nat × Cut K TyK (Int × List DPacket)) := [(2, C_laws_markPacketS_2)]
theorem c_laws_markPacketS_2 (k : Nat) (x0 : Int) (x1 : Int) (x2 : List DPacket) : run cod T (G_laws_markPacketS k) (lam L_laws_markPacketS k) (cutsOf L_laws_markPacketS) 1 (finish cod T false 1 [.tmp 4] D_laws_markPacketS) 4000 true (todoAt 2 (bodyOf Try.f67)) (envOf [0, 1, 5] [.own 0, .lit (.int .i64 x0), .lit (.int .i64 x1)]) [.sl .packet x2] = laws_markPacketS_l2 (k + 1) x0 x1 x2 := by kernel_rfl
theorem e_laws_markPacketS (k : Nat) (a0 : List DPacket) (a1 : Int) : run cod T (G_laws_markPacketS k) (lam L_laws_markPacketS k) (cutsOf L_laws_markPacketS) 1 (finish cod T false 1 [.tmp 4] D_laws_markPacketS) 4000 false [.code (bodyOf Try.f67)] (envOf [0, 1] [.own 0, .lit (.int .i64 a1)]) [.sl .packet a0] = laws_markPacketS k a0 a1 := by kernel_rfl
theorem ok_laws_markPacketS (k : Nat) : SummOk Try.prog cod 67 (S_laws_markPacketS k) := by
  refine summ_of (T := T) Try.f67 (G_laws_markPacketS) L_laws_markPacketS false [.tmp 4] 1 D_laws_markPacketS mixed (fun k => Known.of tok eok codOk ?_) (fun k => QuietOk.of ?_) Try.func67 (by kernel_rfl) (by kernel_rfl) (by kernel_rfl) (by kernel_rfl) (by kernel_rfl) ?_ ?_ [false] ?_
  · exact all_cons (ok_laws_markText k) (all_nil)
  · exact all_cons (fun h r => ⟨rfl, rfl⟩) (all_nil)
  · intro v os r h
    unfold D_laws_markPacketS at h
    split at h <;> first | (cases h; rfl) | cases h
  · refine all_cons ?_ (all_nil)
    · refine ⟨fun vs os => ?_, by kernel_rfl, fun k vs os r h => ?_⟩
      · show C_laws_markPacketS_2.fn 0 vs os = none
        unfold C_laws_markPacketS_2; dsimp only; split <;> rfl
      · change C_laws_markPacketS_2.fn (k + 1) vs os = some r at h
        unfold C_laws_markPacketS_2 at h; dsimp only at h
        split at h
        · exact ⟨4000, (c_laws_markPacketS_2 k _ _ _).trans h⟩
        · cases h
  · intro args os r h
    change (S_laws_markPacketS k).run args os = some r at h
    unfold S_laws_markPacketS at h; dsimp only at h
    split at h
    · exact ⟨Nat.le_of_ble_eq_true (by kernel_rfl), rfl, rfl, k, 4000, (e_laws_markPacketS k _ _).trans h⟩
    · cases h
noncomputable def S_laws_markActed (k : Nat) : Summ K TyK where
  R := Int × List DItem × List DHeld × List ByteArray × List DPacket
  modes := [.mv, .mv]
  run := fun args objs => match args, objs with
    | [.agg [.lit (.int .i64 v1), .lit (.int .i64 v2), .lit (.bool v3), .lit (.int .i64 v4), .lit (.int .i64 v5), .lit (.int .i64 v6), .lit (.bool v7), .lit (.int .i64 v8), .own 0, .lit (.int .i64 v9), .own 1, .lit (.string v10), .own 2, .own 3, .lit (.string v11)], .lit (.int .i64 v12)], [.sl .item v13, .sl .held v14, .sl .str v15, .sl .packet v16] => laws_markActed k (⟨v1, (⟨v2, v3, v4, v5, v6, v7, (⟨v8, v13⟩ : DSend), (⟨v9, v14, v10, v15⟩ : DTake)⟩ : DEnd), v16, v11⟩ : DActed) v12
    | _, _ => none
  ret := fun r => (.lit (.int .i64 r.1), [.sl .item r.2.1, .sl .held r.2.2.1, .sl .str r.2.2.2.1, .sl .packet r.2.2.2.2])
  quiet := false
noncomputable def D_laws_markActed (v : V) (os : Objs K TyK) : Option (Int × List DItem × List DHeld × List ByteArray × List DPacket) :=
  match v, os with
  | .lit (.int .i64 v1), [.sl .item v2, .sl .held v3, .sl .str v4, .sl .packet v5] => some (v1, v2, v3, v4, v5)
  | _, _ => none
noncomputable abbrev G_laws_markActed (k : Nat) : FuncId → Option (Summ K TyK) := lookT [(18, S_laws_markEnd k), (67, S_laws_markPacketS k)]
noncomputable abbrev L_laws_markActed : List (Nat × Cut K TyK (Int × List DItem × List DHeld × List ByteArray × List DPacket)) := []
theorem e_laws_markActed (k : Nat) (a0 : DActed) (a1 : Int) : run cod T (G_laws_markActed k) (lam L_laws_markActed k) (cutsOf L_laws_markActed) 4 (finish cod T false 4 [.tmp 4] D_laws_markActed) 4000 false [.code (bodyOf Try.f19)] (envOf [0, 1] [.agg [.lit (.int .i64 a0.Code), .lit (.int .i64 a0.End.Number), .lit (.bool a0.End.Up), .lit (.int .i64 a0.End.Life), .lit (.int .i64 a0.End.Peer), .lit (.int .i64 a0.End.Since), .lit (.bool a0.End.Owes), .lit (.int .i64 a0.End.Send.Base), .own 0, .lit (.int .i64 a0.End.Take.Next), .own 1, .lit (.string a0.End.Take.Open), .own 2, .own 3, .lit (.string a0.Text)], .lit (.int .i64 a1)]) [.sl .item a0.End.Send.Items, .sl .held a0.End.Take.Held, .sl .str a0.End.Take.Ready, .sl .packet a0.Out] = laws_markActed k a0 a1 := by kernel_rfl
theorem ok_laws_markActed (k : Nat) : SummOk Try.prog cod 19 (S_laws_markActed k) := by
  refine summ_of (T := T) Try.f19 (G_laws_markActed) L_laws_markActed false [.tmp 4] 4 D_laws_markActed mixed (fun k => Known.of tok eok codOk ?_) (fun k => QuietOk.of ?_) Try.func19 (by kernel_rfl) (by kernel_rfl) (by kernel_rfl) (by kernel_rfl) (by kernel_rfl) ?_ ?_ [false, false, false, false] ?_
  · exact all_cons (ok_laws_markEnd k) (all_cons (ok_laws_markPacketS k) (all_nil))
  · exact all_cons (fun h r => by cases h) (all_cons (fun h r => by cases h) (all_nil))
  · intro v os r h
    unfold D_laws_markActed at h
    split at h <;> first | (cases h; rfl) | cases h
  · refine all_nil
  · intro args os r h
    change (S_laws_markActed k).run args os = some r at h
    unfold S_laws_markActed at h; dsimp only at h
    split at h
    · exact ⟨Nat.le_of_ble_eq_true (by kernel_rfl), rfl, rfl, k, 4000, (e_laws_markActed k ⟨_, ⟨_, _, _, _, _, _, ⟨_, _⟩, ⟨_, _, _, _⟩⟩, _, _⟩ _).trans h⟩
    · cases h
noncomputable def S_laws_heldItemS (k : Nat) : Summ K TyK where
  R := Int
  modes := [.bo, .bo]
  run := fun args objs => match args, objs with
    | [.inl true .item v1, .lit (.int .i64 v2)], [] => laws_heldItemS k v1 v2
    | _, _ => none
  ret := fun r => (.lit (.int .i64 r), [])
  quiet := true
noncomputable def D_laws_heldItemS (v : V) (os : Objs K TyK) : Option (Int) :=
  match v, os with
  | .lit (.int .i64 v1), [] => some v1
  | _, _ => none
noncomputable def C_laws_heldItemS_2 : Cut K TyK (Int) where
  slots := [0, 1, 5]
  fn := fun k vs os => match vs, os with
    | [.inl true .item x0, .lit (.int .i64 x1), .lit (.int .i64 x2)], [] => laws_heldItemS_l2 k x0 x1 x2
    | _, _ => none
noncomputable abbrev G_laws_heldItemS (k : Nat) : FuncId → Option (Summ K TyK) := lookT [(136, S_laws_markText k)]
noncomputable abbrev L_laws_heldItemS : List (Nat × Cut K TyK (Int)) := [(2, C_laws_heldItemS_2)]
theorem c_laws_heldItemS_2 (k : Nat) (x0 : List DItem) (x1 : Int) (x2 : Int) : run cod T (G_laws_heldItemS k) (lam L_laws_heldItemS k) (cutsOf L_laws_heldItemS) 0 (finish cod T false 0 [.tmp 4] D_laws_heldItemS) 4000 true (todoAt 2 (bodyOf Try.f165)) (envOf [0, 1, 5] [.inl true .item x0, .lit (.int .i64 x1), .lit (.int .i64 x2)]) [] = laws_heldItemS_l2 (k + 1) x0 x1 x2 := by kernel_rfl
theorem e_laws_heldItemS (k : Nat) (a0 : List DItem) (a1 : Int) : run cod T (G_laws_heldItemS k) (lam L_laws_heldItemS k) (cutsOf L_laws_heldItemS) 0 (finish cod T false 0 [.tmp 4] D_laws_heldItemS) 4000 false [.code (bodyOf Try.f165)] (envOf [0, 1] [.inl true .item a0, .lit (.int .i64 a1)]) [] = laws_heldItemS k a0 a1 := by kernel_rfl
theorem ok_laws_heldItemS (k : Nat) : SummOk Try.prog cod 165 (S_laws_heldItemS k) := by
  refine summ_of (T := T) Try.f165 (G_laws_heldItemS) L_laws_heldItemS false [.tmp 4] 0 D_laws_heldItemS mixed (fun k => Known.of tok eok codOk ?_) (fun k => QuietOk.of ?_) Try.func165 (by kernel_rfl) (by kernel_rfl) (by kernel_rfl) (by kernel_rfl) (by kernel_rfl) ?_ ?_ [] ?_
  · exact all_cons (ok_laws_markText k) (all_nil)
  · exact all_cons (fun h r => ⟨rfl, rfl⟩) (all_nil)
  · intro v os r h
    unfold D_laws_heldItemS at h
    split at h <;> first | (cases h; rfl) | cases h
  · refine all_cons ?_ (all_nil)
    · refine ⟨fun vs os => ?_, by kernel_rfl, fun k vs os r h => ?_⟩
      · show C_laws_heldItemS_2.fn 0 vs os = none
        unfold C_laws_heldItemS_2; dsimp only; split <;> rfl
      · change C_laws_heldItemS_2.fn (k + 1) vs os = some r at h
        unfold C_laws_heldItemS_2 at h; dsimp only at h
        split at h
        · exact ⟨4000, (c_laws_heldItemS_2 k _ _ _).trans h⟩
        · cases h
  · intro args os r h
    change (S_laws_heldItemS k).run args os = some r at h
    unfold S_laws_heldItemS at h; dsimp only at h
    split at h
    · exact ⟨Nat.le_of_ble_eq_true (by kernel_rfl), rfl, rfl, k, 4000, (e_laws_heldItemS k _ _).trans h⟩
    · cases h
noncomputable def S_laws_heldSend (k : Nat) : Summ K TyK where
  R := Int
  modes := [.bo, .bo]
  run := fun args objs => match args, objs with
    | [.agg [.lit (.int .i64 v1), .inl true .item v2], .lit (.int .i64 v3)], [] => laws_heldSend k (⟨v1, v2⟩ : DSend) v3
    | _, _ => none
  ret := fun r => (.lit (.int .i64 r), [])
  quiet := true
noncomputable def D_laws_heldSend (v : V) (os : Objs K TyK) : Option (Int) :=
  match v, os with
  | .lit (.int .i64 v1), [] => some v1
  | _, _ => none
noncomputable abbrev G_laws_heldSend (k : Nat) : FuncId → Option (Summ K TyK) := lookT [(165, S_laws_heldItemS k)]
noncomputable abbrev L_laws_heldSend : List (Nat × Cut K TyK (Int)) := []
theorem e_laws_heldSend (k : Nat) (a0 : DSend) (a1 : Int) : run cod T (G_laws_heldSend k) (lam L_laws_heldSend k) (cutsOf L_laws_heldSend) 0 (finish cod T false 0 [.tmp 4] D_laws_heldSend) 4000 false [.code (bodyOf Try.f137)] (envOf [0, 1] [.agg [.lit (.int .i64 a0.Base), .inl true .item a0.Items], .lit (.int .i64 a1)]) [] = laws_heldSend k a0 a1 := by kernel_rfl
theorem ok_laws_heldSend (k : Nat) : SummOk Try.prog cod 137 (S_laws_heldSend k) := by
  refine summ_of (T := T) Try.f137 (G_laws_heldSend) L_laws_heldSend false [.tmp 4] 0 D_laws_heldSend mixed (fun k => Known.of tok eok codOk ?_) (fun k => QuietOk.of ?_) Try.func137 (by kernel_rfl) (by kernel_rfl) (by kernel_rfl) (by kernel_rfl) (by kernel_rfl) ?_ ?_ [] ?_
  · exact all_cons (ok_laws_heldItemS k) (all_nil)
  · exact all_cons (fun h r => ⟨rfl, rfl⟩) (all_nil)
  · intro v os r h
    unfold D_laws_heldSend at h
    split at h <;> first | (cases h; rfl) | cases h
  · refine all_nil
  · intro args os r h
    change (S_laws_heldSend k).run args os = some r at h
    unfold S_laws_heldSend at h; dsimp only at h
    split at h
    · exact ⟨Nat.le_of_ble_eq_true (by kernel_rfl), rfl, rfl, k, 4000, (e_laws_heldSend k ⟨_, _⟩ _).trans h⟩
    · cases h
noncomputable def S_laws_heldHeldS (k : Nat) : Summ K TyK where
  R := Int
  modes := [.bo, .bo]
  run := fun args objs => match args, objs with
    | [.inl true .held v1, .lit (.int .i64 v2)], [] => laws_heldHeldS k v1 v2
    | _, _ => none
  ret := fun r => (.lit (.int .i64 r), [])
  quiet := true
noncomputable def D_laws_heldHeldS (v : V) (os : Objs K TyK) : Option (Int) :=
  match v, os with
  | .lit (.int .i64 v1), [] => some v1
  | _, _ => none
noncomputable def C_laws_heldHeldS_2 : Cut K TyK (Int) where
  slots := [0, 1, 5]
  fn := fun k vs os => match vs, os with
    | [.inl true .held x0, .lit (.int .i64 x1), .lit (.int .i64 x2)], [] => laws_heldHeldS_l2 k x0 x1 x2
    | _, _ => none
noncomputable abbrev G_laws_heldHeldS (k : Nat) : FuncId → Option (Summ K TyK) := lookT [(136, S_laws_markText k)]
noncomputable abbrev L_laws_heldHeldS : List (Nat × Cut K TyK (Int)) := [(2, C_laws_heldHeldS_2)]
theorem c_laws_heldHeldS_2 (k : Nat) (x0 : List DHeld) (x1 : Int) (x2 : Int) : run cod T (G_laws_heldHeldS k) (lam L_laws_heldHeldS k) (cutsOf L_laws_heldHeldS) 0 (finish cod T false 0 [.tmp 4] D_laws_heldHeldS) 4000 true (todoAt 2 (bodyOf Try.f166)) (envOf [0, 1, 5] [.inl true .held x0, .lit (.int .i64 x1), .lit (.int .i64 x2)]) [] = laws_heldHeldS_l2 (k + 1) x0 x1 x2 := by kernel_rfl
theorem e_laws_heldHeldS (k : Nat) (a0 : List DHeld) (a1 : Int) : run cod T (G_laws_heldHeldS k) (lam L_laws_heldHeldS k) (cutsOf L_laws_heldHeldS) 0 (finish cod T false 0 [.tmp 4] D_laws_heldHeldS) 4000 false [.code (bodyOf Try.f166)] (envOf [0, 1] [.inl true .held a0, .lit (.int .i64 a1)]) [] = laws_heldHeldS k a0 a1 := by kernel_rfl
theorem ok_laws_heldHeldS (k : Nat) : SummOk Try.prog cod 166 (S_laws_heldHeldS k) := by
  refine summ_of (T := T) Try.f166 (G_laws_heldHeldS) L_laws_heldHeldS false [.tmp 4] 0 D_laws_heldHeldS mixed (fun k => Known.of tok eok codOk ?_) (fun k => QuietOk.of ?_) Try.func166 (by kernel_rfl) (by kernel_rfl) (by kernel_rfl) (by kernel_rfl) (by kernel_rfl) ?_ ?_ [] ?_
  · exact all_cons (ok_laws_markText k) (all_nil)
  · exact all_cons (fun h r => ⟨rfl, rfl⟩) (all_nil)
  · intro v os r h
    unfold D_laws_heldHeldS at h
    split at h <;> first | (cases h; rfl) | cases h
  · refine all_cons ?_ (all_nil)
    · refine ⟨fun vs os => ?_, by kernel_rfl, fun k vs os r h => ?_⟩
      · show C_laws_heldHeldS_2.fn 0 vs os = none
        unfold C_laws_heldHeldS_2; dsimp only; split <;> rfl
      · change C_laws_heldHeldS_2.fn (k + 1) vs os = some r at h
        unfold C_laws_heldHeldS_2 at h; dsimp only at h
        split at h
        · exact ⟨4000, (c_laws_heldHeldS_2 k _ _ _).trans h⟩
        · cases h
  · intro args os r h
    change (S_laws_heldHeldS k).run args os = some r at h
    unfold S_laws_heldHeldS at h; dsimp only at h
    split at h
    · exact ⟨Nat.le_of_ble_eq_true (by kernel_rfl), rfl, rfl, k, 4000, (e_laws_heldHeldS k _ _).trans h⟩
    · cases h
noncomputable def S_laws_heldStringS (k : Nat) : Summ K TyK where
  R := Int
  modes := [.bo, .bo]
  run := fun args objs => match args, objs with
    | [.inl true .str v1, .lit (.int .i64 v2)], [] => laws_heldStringS k v1 v2
    | _, _ => none
  ret := fun r => (.lit (.int .i64 r), [])
  quiet := true
noncomputable def D_laws_heldStringS (v : V) (os : Objs K TyK) : Option (Int) :=
  match v, os with
  | .lit (.int .i64 v1), [] => some v1
  | _, _ => none
noncomputable def C_laws_heldStringS_2 : Cut K TyK (Int) where
  slots := [0, 1, 5]
  fn := fun k vs os => match vs, os with
    | [.inl true .str x0, .lit (.int .i64 x1), .lit (.int .i64 x2)], [] => laws_heldStringS_l2 k x0 x1 x2
    | _, _ => none
noncomputable abbrev G_laws_heldStringS (k : Nat) : FuncId → Option (Summ K TyK) := lookT [(136, S_laws_markText k)]
noncomputable abbrev L_laws_heldStringS : List (Nat × Cut K TyK (Int)) := [(2, C_laws_heldStringS_2)]
theorem c_laws_heldStringS_2 (k : Nat) (x0 : List ByteArray) (x1 : Int) (x2 : Int) : run cod T (G_laws_heldStringS k) (lam L_laws_heldStringS k) (cutsOf L_laws_heldStringS) 0 (finish cod T false 0 [.tmp 4] D_laws_heldStringS) 4000 true (todoAt 2 (bodyOf Try.f167)) (envOf [0, 1, 5] [.inl true .str x0, .lit (.int .i64 x1), .lit (.int .i64 x2)]) [] = laws_heldStringS_l2 (k + 1) x0 x1 x2 := by kernel_rfl
theorem e_laws_heldStringS (k : Nat) (a0 : List ByteArray) (a1 : Int) : run cod T (G_laws_heldStringS k) (lam L_laws_heldStringS k) (cutsOf L_laws_heldStringS) 0 (finish cod T false 0 [.tmp 4] D_laws_heldStringS) 4000 false [.code (bodyOf Try.f167)] (envOf [0, 1] [.inl true .str a0, .lit (.int .i64 a1)]) [] = laws_heldStringS k a0 a1 := by kernel_rfl
theorem ok_laws_heldStringS (k : Nat) : SummOk Try.prog cod 167 (S_laws_heldStringS k) := by
  refine summ_of (T := T) Try.f167 (G_laws_heldStringS) L_laws_heldStringS false [.tmp 4] 0 D_laws_heldStringS mixed (fun k => Known.of tok eok codOk ?_) (fun k => QuietOk.of ?_) Try.func167 (by kernel_rfl) (by kernel_rfl) (by kernel_rfl) (by kernel_rfl) (by kernel_rfl) ?_ ?_ [] ?_
  · exact all_cons (ok_laws_markText k) (all_nil)
  · exact all_cons (fun h r => ⟨rfl, rfl⟩) (all_nil)
  · intro v os r h
    unfold D_laws_heldStringS at h
    split at h <;> first | (cases h; rfl) | cases h
  · refine all_cons ?_ (all_nil)
    · refine ⟨fun vs os => ?_, by kernel_rfl, fun k vs os r h => ?_⟩
      · show C_laws_heldStringS_2.fn 0 vs os = none
        unfold C_laws_heldStringS_2; dsimp only; split <;> rfl
      · change C_laws_heldStringS_2.fn (k + 1) vs os = some r at h
        unfold C_laws_heldStringS_2 at h; dsimp only at h
        split at h
        · exact ⟨4000, (c_laws_heldStringS_2 k _ _ _).trans h⟩
        · cases h
  · intro args os r h
    change (S_laws_heldStringS k).run args os = some r at h
    unfold S_laws_heldStringS at h; dsimp only at h
    split at h
    · exact ⟨Nat.le_of_ble_eq_true (by kernel_rfl), rfl, rfl, k, 4000, (e_laws_heldStringS k _ _).trans h⟩
    · cases h
noncomputable def S_laws_heldTake (k : Nat) : Summ K TyK where
  R := Int
  modes := [.bo, .bo]
  run := fun args objs => match args, objs with
    | [.agg [.lit (.int .i64 v1), .inl true .held v2, .lit (.string v3), .inl true .str v4], .lit (.int .i64 v5)], [] => laws_heldTake k (⟨v1, v2, v3, v4⟩ : DTake) v5
    | _, _ => none
  ret := fun r => (.lit (.int .i64 r), [])
  quiet := true
noncomputable def D_laws_heldTake (v : V) (os : Objs K TyK) : Option (Int) :=
  match v, os with
  | .lit (.int .i64 v1), [] => some v1
  | _, _ => none
noncomputable abbrev G_laws_heldTake (k : Nat) : FuncId → Option (Summ K TyK) := lookT [(166, S_laws_heldHeldS k), (167, S_laws_heldStringS k)]
noncomputable abbrev L_laws_heldTake : List (Nat × Cut K TyK (Int)) := []
theorem e_laws_heldTake (k : Nat) (a0 : DTake) (a1 : Int) : run cod T (G_laws_heldTake k) (lam L_laws_heldTake k) (cutsOf L_laws_heldTake) 0 (finish cod T false 0 [.tmp 4] D_laws_heldTake) 4000 false [.code (bodyOf Try.f138)] (envOf [0, 1] [.agg [.lit (.int .i64 a0.Next), .inl true .held a0.Held, .lit (.string a0.Open), .inl true .str a0.Ready], .lit (.int .i64 a1)]) [] = laws_heldTake k a0 a1 := by kernel_rfl
theorem ok_laws_heldTake (k : Nat) : SummOk Try.prog cod 138 (S_laws_heldTake k) := by
  refine summ_of (T := T) Try.f138 (G_laws_heldTake) L_laws_heldTake false [.tmp 4] 0 D_laws_heldTake mixed (fun k => Known.of tok eok codOk ?_) (fun k => QuietOk.of ?_) Try.func138 (by kernel_rfl) (by kernel_rfl) (by kernel_rfl) (by kernel_rfl) (by kernel_rfl) ?_ ?_ [] ?_
  · exact all_cons (ok_laws_heldHeldS k) (all_cons (ok_laws_heldStringS k) (all_nil))
  · exact all_cons (fun h r => ⟨rfl, rfl⟩) (all_cons (fun h r => ⟨rfl, rfl⟩) (all_nil))
  · intro v os r h
    unfold D_laws_heldTake at h
    split at h <;> first | (cases h; rfl) | cases h
  · refine all_nil
  · intro args os r h
    change (S_laws_heldTake k).run args os = some r at h
    unfold S_laws_heldTake at h; dsimp only at h
    split at h
    · exact ⟨Nat.le_of_ble_eq_true (by kernel_rfl), rfl, rfl, k, 4000, (e_laws_heldTake k ⟨_, _, _, _⟩ _).trans h⟩
    · cases h
noncomputable def S_laws_heldEnd (k : Nat) : Summ K TyK where
  R := Int
  modes := [.bo, .bo]
  run := fun args objs => match args, objs with
    | [.agg [.lit (.int .i64 v1), .lit (.bool v2), .lit (.int .i64 v3), .lit (.int .i64 v4), .lit (.int .i64 v5), .lit (.bool v6), .lit (.int .i64 v7), .inl true .item v8, .lit (.int .i64 v9), .inl true .held v10, .lit (.string v11), .inl true .str v12], .lit (.int .i64 v13)], [] => laws_heldEnd k (⟨v1, v2, v3, v4, v5, v6, (⟨v7, v8⟩ : DSend), (⟨v9, v10, v11, v12⟩ : DTake)⟩ : DEnd) v13
    | _, _ => none
  ret := fun r => (.lit (.int .i64 r), [])
  quiet := true
noncomputable def D_laws_heldEnd (v : V) (os : Objs K TyK) : Option (Int) :=
  match v, os with
  | .lit (.int .i64 v1), [] => some v1
  | _, _ => none
noncomputable abbrev G_laws_heldEnd (k : Nat) : FuncId → Option (Summ K TyK) := lookT [(137, S_laws_heldSend k), (138, S_laws_heldTake k)]
noncomputable abbrev L_laws_heldEnd : List (Nat × Cut K TyK (Int)) := []
theorem e_laws_heldEnd (k : Nat) (a0 : DEnd) (a1 : Int) : run cod T (G_laws_heldEnd k) (lam L_laws_heldEnd k) (cutsOf L_laws_heldEnd) 0 (finish cod T false 0 [.tmp 4] D_laws_heldEnd) 4000 false [.code (bodyOf Try.f68)] (envOf [0, 1] [.agg [.lit (.int .i64 a0.Number), .lit (.bool a0.Up), .lit (.int .i64 a0.Life), .lit (.int .i64 a0.Peer), .lit (.int .i64 a0.Since), .lit (.bool a0.Owes), .lit (.int .i64 a0.Send.Base), .inl true .item a0.Send.Items, .lit (.int .i64 a0.Take.Next), .inl true .held a0.Take.Held, .lit (.string a0.Take.Open), .inl true .str a0.Take.Ready], .lit (.int .i64 a1)]) [] = laws_heldEnd k a0 a1 := by kernel_rfl
theorem ok_laws_heldEnd (k : Nat) : SummOk Try.prog cod 68 (S_laws_heldEnd k) := by
  refine summ_of (T := T) Try.f68 (G_laws_heldEnd) L_laws_heldEnd false [.tmp 4] 0 D_laws_heldEnd mixed (fun k => Known.of tok eok codOk ?_) (fun k => QuietOk.of ?_) Try.func68 (by kernel_rfl) (by kernel_rfl) (by kernel_rfl) (by kernel_rfl) (by kernel_rfl) ?_ ?_ [] ?_
  · exact all_cons (ok_laws_heldSend k) (all_cons (ok_laws_heldTake k) (all_nil))
  · exact all_cons (fun h r => ⟨rfl, rfl⟩) (all_cons (fun h r => ⟨rfl, rfl⟩) (all_nil))
  · intro v os r h
    unfold D_laws_heldEnd at h
    split at h <;> first | (cases h; rfl) | cases h
  · refine all_nil
  · intro args os r h
    change (S_laws_heldEnd k).run args os = some r at h
    unfold S_laws_heldEnd at h; dsimp only at h
    split at h
    · exact ⟨Nat.le_of_ble_eq_true (by kernel_rfl), rfl, rfl, k, 4000, (e_laws_heldEnd k ⟨_, _, _, _, _, _, ⟨_, _⟩, ⟨_, _, _, _⟩⟩ _).trans h⟩
    · cases h
noncomputable def S_laws_heldPacketS (k : Nat) : Summ K TyK where
  R := Int
  modes := [.bo, .bo]
  run := fun args objs => match args, objs with
    | [.inl true .packet v1, .lit (.int .i64 v2)], [] => laws_heldPacketS k v1 v2
    | _, _ => none
  ret := fun r => (.lit (.int .i64 r), [])
  quiet := true
noncomputable def D_laws_heldPacketS (v : V) (os : Objs K TyK) : Option (Int) :=
  match v, os with
  | .lit (.int .i64 v1), [] => some v1
  | _, _ => none
noncomputable def C_laws_heldPacketS_2 : Cut K TyK (Int) where
  slots := [0, 1, 5]
  fn := fun k vs os => match vs, os with
    | [.inl true .packet x0, .lit (.int .i64 x1), .lit (.int .i64 x2)], [] => laws_heldPacketS_l2 k x0 x1 x2
    | _, _ => none
noncomputable abbrev G_laws_heldPacketS (k : Nat) : FuncId → Option (Summ K TyK) := lookT [(136, S_laws_markText k)]
noncomputable abbrev L_laws_heldPacketS : List (Nat × Cut K TyK (Int)) := [(2, C_laws_heldPacketS_2)]
theorem c_laws_heldPacketS_2 (k : Nat) (x0 : List DPacket) (x1 : Int) (x2 : Int) : run cod T (G_laws_heldPacketS k) (lam L_laws_heldPacketS k) (cutsOf L_laws_heldPacketS) 0 (finish cod T false 0 [.tmp 4] D_laws_heldPacketS) 4000 true (todoAt 2 (bodyOf Try.f69)) (envOf [0, 1, 5] [.inl true .packet x0, .lit (.int .i64 x1), .lit (.int .i64 x2)]) [] = laws_heldPacketS_l2 (k + 1) x0 x1 x2 := by kernel_rfl
theorem e_laws_heldPacketS (k : Nat) (a0 : List DPacket) (a1 : Int) : run cod T (G_laws_heldPacketS k) (lam L_laws_heldPacketS k) (cutsOf L_laws_heldPacketS) 0 (finish cod T false 0 [.tmp 4] D_laws_heldPacketS) 4000 false [.code (bodyOf Try.f69)] (envOf [0, 1] [.inl true .packet a0, .lit (.int .i64 a1)]) [] = laws_heldPacketS k a0 a1 := by kernel_rfl
theorem ok_laws_heldPacketS (k : Nat) : SummOk Try.prog cod 69 (S_laws_heldPacketS k) := by
  refine summ_of (T := T) Try.f69 (G_laws_heldPacketS) L_laws_heldPacketS false [.tmp 4] 0 D_laws_heldPacketS mixed (fun k => Known.of tok eok codOk ?_) (fun k => QuietOk.of ?_) Try.func69 (by kernel_rfl) (by kernel_rfl) (by kernel_rfl) (by kernel_rfl) (by kernel_rfl) ?_ ?_ [] ?_
  · exact all_cons (ok_laws_markText k) (all_nil)
  · exact all_cons (fun h r => ⟨rfl, rfl⟩) (all_nil)
  · intro v os r h
    unfold D_laws_heldPacketS at h
    split at h <;> first | (cases h; rfl) | cases h
  · refine all_cons ?_ (all_nil)
    · refine ⟨fun vs os => ?_, by kernel_rfl, fun k vs os r h => ?_⟩
      · show C_laws_heldPacketS_2.fn 0 vs os = none
        unfold C_laws_heldPacketS_2; dsimp only; split <;> rfl
      · change C_laws_heldPacketS_2.fn (k + 1) vs os = some r at h
        unfold C_laws_heldPacketS_2 at h; dsimp only at h
        split at h
        · exact ⟨4000, (c_laws_heldPacketS_2 k _ _ _).trans h⟩
        · cases h
  · intro args os r h
    change (S_laws_heldPacketS k).run args os = some r at h
    unfold S_laws_heldPacketS at h; dsimp only at h
    split at h
    · exact ⟨Nat.le_of_ble_eq_true (by kernel_rfl), rfl, rfl, k, 4000, (e_laws_heldPacketS k _ _).trans h⟩
    · cases h
noncomputable def S_laws_heldActed (k : Nat) : Summ K TyK where
  R := Int
  modes := [.bo, .bo]
  run := fun args objs => match args, objs with
    | [.agg [.lit (.int .i64 v1), .lit (.int .i64 v2), .lit (.bool v3), .lit (.int .i64 v4), .lit (.int .i64 v5), .lit (.int .i64 v6), .lit (.bool v7), .lit (.int .i64 v8), .inl true .item v9, .lit (.int .i64 v10), .inl true .held v11, .lit (.string v12), .inl true .str v13, .inl true .packet v14, .lit (.string v15)], .lit (.int .i64 v16)], [] => laws_heldActed k (⟨v1, (⟨v2, v3, v4, v5, v6, v7, (⟨v8, v9⟩ : DSend), (⟨v10, v11, v12, v13⟩ : DTake)⟩ : DEnd), v14, v15⟩ : DActed) v16
    | _, _ => none
  ret := fun r => (.lit (.int .i64 r), [])
  quiet := true
noncomputable def D_laws_heldActed (v : V) (os : Objs K TyK) : Option (Int) :=
  match v, os with
  | .lit (.int .i64 v1), [] => some v1
  | _, _ => none
noncomputable abbrev G_laws_heldActed (k : Nat) : FuncId → Option (Summ K TyK) := lookT [(68, S_laws_heldEnd k), (69, S_laws_heldPacketS k)]
noncomputable abbrev L_laws_heldActed : List (Nat × Cut K TyK (Int)) := []
theorem e_laws_heldActed (k : Nat) (a0 : DActed) (a1 : Int) : run cod T (G_laws_heldActed k) (lam L_laws_heldActed k) (cutsOf L_laws_heldActed) 0 (finish cod T false 0 [.tmp 4] D_laws_heldActed) 4000 false [.code (bodyOf Try.f20)] (envOf [0, 1] [.agg [.lit (.int .i64 a0.Code), .lit (.int .i64 a0.End.Number), .lit (.bool a0.End.Up), .lit (.int .i64 a0.End.Life), .lit (.int .i64 a0.End.Peer), .lit (.int .i64 a0.End.Since), .lit (.bool a0.End.Owes), .lit (.int .i64 a0.End.Send.Base), .inl true .item a0.End.Send.Items, .lit (.int .i64 a0.End.Take.Next), .inl true .held a0.End.Take.Held, .lit (.string a0.End.Take.Open), .inl true .str a0.End.Take.Ready, .inl true .packet a0.Out, .lit (.string a0.Text)], .lit (.int .i64 a1)]) [] = laws_heldActed k a0 a1 := by kernel_rfl
theorem ok_laws_heldActed (k : Nat) : SummOk Try.prog cod 20 (S_laws_heldActed k) := by
  refine summ_of (T := T) Try.f20 (G_laws_heldActed) L_laws_heldActed false [.tmp 4] 0 D_laws_heldActed mixed (fun k => Known.of tok eok codOk ?_) (fun k => QuietOk.of ?_) Try.func20 (by kernel_rfl) (by kernel_rfl) (by kernel_rfl) (by kernel_rfl) (by kernel_rfl) ?_ ?_ [] ?_
  · exact all_cons (ok_laws_heldEnd k) (all_cons (ok_laws_heldPacketS k) (all_nil))
  · exact all_cons (fun h r => ⟨rfl, rfl⟩) (all_cons (fun h r => ⟨rfl, rfl⟩) (all_nil))
  · intro v os r h
    unfold D_laws_heldActed at h
    split at h <;> first | (cases h; rfl) | cases h
  · refine all_nil
  · intro args os r h
    change (S_laws_heldActed k).run args os = some r at h
    unfold S_laws_heldActed at h; dsimp only at h
    split at h
    · exact ⟨Nat.le_of_ble_eq_true (by kernel_rfl), rfl, rfl, k, 4000, (e_laws_heldActed k ⟨_, ⟨_, _, _, _, _, _, ⟨_, _⟩, ⟨_, _, _, _⟩⟩, _, _⟩ _).trans h⟩
    · cases h
noncomputable def S_laws_FnExactEndTake (k : Nat) : Summ K TyK where
  R := Bool
  modes := [.pe, .pe]
  run := fun args objs => match args, objs with
    | [.agg [.lit (.int .i64 v1), .lit (.bool v2), .lit (.int .i64 v3), .lit (.int .i64 v4), .lit (.int .i64 v5), .lit (.bool v6), .lit (.int .i64 v7), .inl false .item v8, .lit (.int .i64 v9), .inl false .held v10, .lit (.string v11), .inl false .str v12], .agg [.lit (.int .i64 v13), .lit (.int .i64 v14), .lit (.int .i64 v15), .lit (.int .i64 v16), .lit (.int .i64 v17), .lit (.int .i64 v18), .lit (.int .i64 v19), .lit (.bool v20), .lit (.string v21)]], [] => laws_FnExactEndTake k (⟨v1, v2, v3, v4, v5, v6, (⟨v7, v8⟩ : DSend), (⟨v9, v10, v11, v12⟩ : DTake)⟩ : DEnd) (⟨v13, v14, v15, v16, v17, v18, v19, v20, v21⟩ : DPacket)
    | _, _ => none
  ret := fun r => (.lit (.bool r), [])
  quiet := true
noncomputable def D_laws_FnExactEndTake (v : V) (os : Objs K TyK) : Option (Bool) :=
  match v, os with
  | .lit (.bool v1), [] => some v1
  | _, _ => none
noncomputable abbrev G_laws_FnExactEndTake (k : Nat) : FuncId → Option (Summ K TyK) := lookT [(10, S_laws_szEnd k), (11, S_laws_szPacket k), (13, S_laws_toEnd k), (14, S_laws_toPacket k), (12, S_spec_EndTake k), (15, S_impl_EndTake k), (16, S_laws_eqActed k), (17, S_laws_eqEnd k), (18, S_laws_markEnd k), (19, S_laws_markActed k), (20, S_laws_heldActed k)]
noncomputable abbrev L_laws_FnExactEndTake : List (Nat × Cut K TyK (Bool)) := []
theorem e_laws_FnExactEndTake (k : Nat) (a0 : DEnd) (a1 : DPacket) : run cod T (G_laws_FnExactEndTake k) (lam L_laws_FnExactEndTake k) (cutsOf L_laws_FnExactEndTake) 0 (finish cod T false 0 [.tmp 4] D_laws_FnExactEndTake) 4000 false [.code (bodyOf Try.f3)] (envOf [0, 1] [.agg [.lit (.int .i64 a0.Number), .lit (.bool a0.Up), .lit (.int .i64 a0.Life), .lit (.int .i64 a0.Peer), .lit (.int .i64 a0.Since), .lit (.bool a0.Owes), .lit (.int .i64 a0.Send.Base), .inl false .item a0.Send.Items, .lit (.int .i64 a0.Take.Next), .inl false .held a0.Take.Held, .lit (.string a0.Take.Open), .inl false .str a0.Take.Ready], .agg [.lit (.int .i64 a1.Kind), .lit (.int .i64 a1.From), .lit (.int .i64 a1.Mine), .lit (.int .i64 a1.Yours), .lit (.int .i64 a1.Next), .lit (.int .i64 a1.Mask), .lit (.int .i64 a1.Seq), .lit (.bool a1.Last), .lit (.string a1.Part)]]) [] = laws_FnExactEndTake k a0 a1 := by kernel_rfl
theorem ok_laws_FnExactEndTake (k : Nat) : SummOk Try.prog cod 3 (S_laws_FnExactEndTake k) := by
  refine summ_of (T := T) Try.f3 (G_laws_FnExactEndTake) L_laws_FnExactEndTake false [.tmp 4] 0 D_laws_FnExactEndTake mixed (fun k => Known.of tok eok codOk ?_) (fun k => QuietOk.of ?_) Try.func3 (by kernel_rfl) (by kernel_rfl) (by kernel_rfl) (by kernel_rfl) (by kernel_rfl) ?_ ?_ [] ?_
  · exact all_cons (ok_laws_szEnd k) (all_cons (ok_laws_szPacket k) (all_cons (ok_laws_toEnd k) (all_cons (ok_laws_toPacket k) (all_cons (ok_spec_EndTake k) (all_cons (ok_impl_EndTake k) (all_cons (ok_laws_eqActed k) (all_cons (ok_laws_eqEnd k) (all_cons (ok_laws_markEnd k) (all_cons (ok_laws_markActed k) (all_cons (ok_laws_heldActed k) (all_nil)))))))))))
  · exact all_cons (fun h r => ⟨rfl, rfl⟩) (all_cons (fun h r => ⟨rfl, rfl⟩) (all_cons (fun h r => by cases h) (all_cons (fun h r => ⟨rfl, rfl⟩) (all_cons (fun h r => by cases h) (all_cons (fun h r => by cases h) (all_cons (fun h r => ⟨rfl, rfl⟩) (all_cons (fun h r => ⟨rfl, rfl⟩) (all_cons (fun h r => by cases h) (all_cons (fun h r => by cases h) (all_cons (fun h r => ⟨rfl, rfl⟩) (all_nil)))))))))))
  · intro v os r h
    unfold D_laws_FnExactEndTake at h
    split at h <;> first | (cases h; rfl) | cases h
  · refine all_nil
  · intro args os r h
    change (S_laws_FnExactEndTake k).run args os = some r at h
    unfold S_laws_FnExactEndTake at h; dsimp only at h
    split at h
    · exact ⟨Nat.le_of_ble_eq_true (by kernel_rfl), rfl, rfl, k, 4000, (e_laws_FnExactEndTake k ⟨_, _, _, _, _, _, ⟨_, _⟩, ⟨_, _, _, _⟩⟩ ⟨_, _, _, _, _, _, _, _, _⟩).trans h⟩
    · cases h
end Km.X
