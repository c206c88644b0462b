/- A part of the proof: an abstract machine over the program (sound by its theorems), or definitions printed by it. There is no condition. -/
import Derived.Test.YtpedakafdiejfaaKmXTy
import Derived.Test.YtpedakafdiejfaaKmTrod
namespace Km.X
open Go Km Go.Proofs
set_option linter.unusedVariables false
set_option linter.unusedSimpArgs false
set_option maxRecDepth 100000
def wf_byte (x : Int) : Prop := (Lit.int .u8 x).wf = true
def wf_int (x : Int) : Prop := (Lit.int .i64 x).wf = true
def wf_str (x : ByteArray) : Prop := x.size ≤ maxLen
def wfDPart (x : DPart) : Prop := x.Text.size ≤ maxLen ∧ True
def wf_part (x : DPart) : Prop := wfDPart x
def wfDItem (x : DItem) : Prop := wfDPart x.Part ∧ True ∧ (Lit.int .i64 x.Since).wf = true
def wf_item (x : DItem) : Prop := wfDItem x
def wfDSend (x : DSend) : Prop := (Lit.int .i64 x.Base).wf = true ∧ (x.Items.length ≤ maxLen ∧ ∀ y ∈ x.Items, wf_item y)
def wfDPacket (x : DPacket) : Prop := (Lit.int .i64 x.Kind).wf = true ∧ (Lit.int .i64 x.From).wf = true ∧ (Lit.int .i64 x.Mine).wf = true ∧ (Lit.int .i64 x.Yours).wf = true ∧ (Lit.int .i64 x.Next).wf = true ∧ (Lit.int .i64 x.Mask).wf = true ∧ (Lit.int .i64 x.Seq).wf = true ∧ True ∧ x.Part.size ≤ maxLen
theorem eq_DPart (x y : DPart) (h : x.Text = y.Text ∧ x.Last = y.Last) : x = y := by
  obtain ⟨_, _⟩ := x
  obtain ⟨_, _⟩ := y
  simp_all
theorem eq_DItem (x y : DItem) (h : x.Part.Text = y.Part.Text ∧ x.Part.Last = y.Part.Last ∧ x.Has = y.Has ∧ x.Since = y.Since) : x = y := by
  obtain ⟨⟨_, _⟩, _, _⟩ := x
  obtain ⟨⟨_, _⟩, _, _⟩ := y
  simp_all
theorem eq_DPacket (x y : DPacket) (h : x.Kind = y.Kind ∧ x.From = y.From ∧ x.Mine = y.Mine ∧ x.Yours = y.Yours ∧ x.Next = y.Next ∧ x.Mask = y.Mask ∧ x.Seq = y.Seq ∧ x.Last = y.Last ∧ x.Part = y.Part) : x = y := by
  obtain ⟨_, _, _, _, _, _, _, _, _⟩ := x
  obtain ⟨_, _, _, _, _, _, _, _, _⟩ := y
  simp_all
theorem eq_DSend (x y : DSend) (h : x.Base = y.Base ∧ x.Items = y.Items) : x = y := by
  obtain ⟨_, _⟩ := x
  obtain ⟨_, _⟩ := y
  simp_all
theorem list2 {α : Type} {l : List α} (h : l.length = 2) : ∃ a0 a1, l = [a0, a1] := by
  match l, h with
  | [a0, a1], _ => exact ⟨a0, a1, rfl⟩
theorem list4 {α : Type} {l : List α} (h : l.length = 4) : ∃ a0 a1 a2 a3, l = [a0, a1, a2, a3] := by
  match l, h with
  | [a0, a1, a2, a3], _ => exact ⟨a0, a1, a2, a3, rfl⟩
theorem list9 {α : Type} {l : List α} (h : l.length = 9) : ∃ a0 a1 a2 a3 a4 a5 a6 a7 a8, l = [a0, a1, a2, a3, a4, a5, a6, a7, a8] := by
  match l, h with
  | [a0, a1, a2, a3, a4, a5, a6, a7, a8], _ => exact ⟨a0, a1, a2, a3, a4, a5, a6, a7, a8, rfl⟩
theorem sh2 {n : Nat} {avs : List V} (h : shaped cod T n 2 avs) : ∃ x : Int, avs = [.lit (.int .i64 x)] ∧ (Lit.int .i64 x).wf = true := by
  cases n with
  | zero => exact h.elim
  | succ n =>
    exact h
theorem sh3 {n : Nat} {avs : List V} (h : shaped cod T n 3 avs) : ∃ x : Int, avs = [.lit (.int .i64 x)] ∧ (Lit.int .i64 x).wf = true := by
  cases n with
  | zero => exact h.elim
  | succ n =>
    exact h
theorem sh4 {n : Nat} {avs : List V} (h : shaped cod T n 4 avs) : ∃ x : Bool, avs = [.lit (.bool x)] ∧ True := by
  cases n with
  | zero => exact h.elim
  | succ n =>
    obtain ⟨b, h⟩ := (h : ∃ b, avs = [.lit (.bool b)])
    exact ⟨b, h, trivial⟩
theorem sh5 {n : Nat} {avs : List V} (h : shaped cod T n 5 avs) : ∃ x : Int, avs = [.lit (.int .u8 x)] ∧ (Lit.int .u8 x).wf = true := by
  cases n with
  | zero => exact h.elim
  | succ n =>
    exact h
theorem sh9 {n : Nat} {avs : List V} (h : shaped cod T n 9 avs) : ∃ x : ByteArray, avs = [.lit (.string x)] ∧ x.size ≤ maxLen := by
  cases n with
  | zero => exact h.elim
  | succ n =>
    exact h
theorem sh12 {n : Nat} {avs : List V} (h : shaped cod T n 12 avs) : ∃ x : Int, avs = [.lit (.int .u64 x)] ∧ (Lit.int .u64 x).wf = true := by
  cases n with
  | zero => exact h.elim
  | succ n =>
    exact h
theorem sh21 {n : Nat} {avs : List V} (h : shaped cod T n 21 avs) : ∃ x : Int, avs = [.lit (.int .i32 x)] ∧ (Lit.int .i32 x).wf = true := by
  cases n with
  | zero => exact h.elim
  | succ n =>
    exact h
theorem sh54 {n : Nat} {avs : List V} (h : shaped cod T n 54 avs) : ∃ x : DPart, avs = [.lit (.string x.Text), .lit (.bool x.Last)] ∧ wfDPart x := by
  cases n with
  | zero => exact h.elim
  | succ n =>
    obtain ⟨hl, hf⟩ := (h : avs.length = 2 ∧ ∀ f ∈ ([(0, 9), (1, 4)] : List (Nat × TypeId)), ∃ tf, T f.2 = some tf ∧ shaped cod T n f.2 ((avs.drop f.1).take tf.size))
    obtain ⟨a0, a1, rfl⟩ := list2 hl
    obtain ⟨t0, ht0, g0⟩ := hf (0, 9) (by simp)
    obtain rfl := Option.some.inj ht0
    obtain ⟨x0, e0, w0⟩ := sh9 (show shaped cod T n 9 [a0] from g0)
    simp only [List.cons.injEq, and_true] at e0
    obtain ⟨t1, ht1, g1⟩ := hf (1, 4) (by simp)
    obtain rfl := Option.some.inj ht1
    obtain ⟨x1, e1, w1⟩ := sh4 (show shaped cod T n 4 [a1] from g1)
    simp only [List.cons.injEq, and_true] at e1
    obtain rfl := e0
    obtain rfl := e1
    exact ⟨⟨x0, x1⟩, rfl, w0, w1⟩
theorem sh25 {n : Nat} {avs : List V} (h : shaped cod T n 25 avs) : ∃ x : List DPart, avs = [.inl false .part x] ∧ (x.length ≤ maxLen ∧ ∀ y ∈ x, wf_part y) := by
  cases n with
  | zero => exact h.elim
  | succ n =>
    obtain ⟨xs, h1, h2, h3⟩ := (h : ∃ xs : List (TyK .part), avs = [.inl false .part xs] ∧ xs.length ≤ maxLen ∧ ∀ x ∈ xs, shaped cod T n 54 (kenc .part x))
    refine ⟨xs, h1, h2, fun y hy => ?_⟩
    obtain ⟨z, hz, hw⟩ := sh54 (h3 y hy)
    have hz : ([.lit (.string y.Text), .lit (.bool y.Last)] : List V) = [.lit (.string z.Text), .lit (.bool z.Last)] := hz
    have : y = z := by
      simp only [List.cons.injEq, AV.lit.injEq, AV.inl.injEq, Value.int.injEq, Value.string.injEq, Value.bool.injEq, true_and, and_true, heq_eq_eq] at hz
      exact eq_DPart y z hz
    subst this
    exact hw
theorem sh66 {n : Nat} {avs : List V} (h : shaped cod T n 66 avs) : ∃ x : DPart, avs = [.lit (.string x.Text), .lit (.bool x.Last)] ∧ wfDPart x := by
  cases n with
  | zero => exact h.elim
  | succ n =>
    obtain ⟨hl, hf⟩ := (h : avs.length = 2 ∧ ∀ f ∈ ([(0, 9), (1, 4)] : List (Nat × TypeId)), ∃ tf, T f.2 = some tf ∧ shaped cod T n f.2 ((avs.drop f.1).take tf.size))
    obtain ⟨a0, a1, rfl⟩ := list2 hl
    obtain ⟨t0, ht0, g0⟩ := hf (0, 9) (by simp)
    obtain rfl := Option.some.inj ht0
    obtain ⟨x0, e0, w0⟩ := sh9 (show shaped cod T n 9 [a0] from g0)
    simp only [List.cons.injEq, and_true] at e0
    obtain ⟨t1, ht1, g1⟩ := hf (1, 4) (by simp)
    obtain rfl := Option.some.inj ht1
    obtain ⟨x1, e1, w1⟩ := sh4 (show shaped cod T n 4 [a1] from g1)
    simp only [List.cons.injEq, and_true] at e1
    obtain rfl := e0
    obtain rfl := e1
    exact ⟨⟨x0, x1⟩, rfl, w0, w1⟩
theorem sh68 {n : Nat} {avs : List V} (h : shaped cod T n 68 avs) : ∃ x : DItem, avs = [.lit (.string x.Part.Text), .lit (.bool x.Part.Last), .lit (.bool x.Has), .lit (.int .i64 x.Since)] ∧ wfDItem x := by
  cases n with
  | zero => exact h.elim
  | succ n =>
    obtain ⟨hl, hf⟩ := (h : avs.length = 4 ∧ ∀ f ∈ ([(0, 66), (2, 4), (3, 3)] : List (Nat × TypeId)), ∃ tf, T f.2 = some tf ∧ shaped cod T n f.2 ((avs.drop f.1).take tf.size))
    obtain ⟨a0, a1, a2, a3, rfl⟩ := list4 hl
    obtain ⟨t0, ht0, g0⟩ := hf (0, 66) (by simp)
    obtain rfl := Option.some.inj ht0
    obtain ⟨x0, e0, w0⟩ := sh66 (show shaped cod T n 66 [a0, a1] from g0)
    simp only [List.cons.injEq, and_true] at e0
    obtain ⟨t1, ht1, g1⟩ := hf (2, 4) (by simp)
    obtain rfl := Option.some.inj ht1
    obtain ⟨x1, e1, w1⟩ := sh4 (show shaped cod T n 4 [a2] from g1)
    simp only [List.cons.injEq, and_true] at e1
    obtain ⟨t2, ht2, g2⟩ := hf (3, 3) (by simp)
    obtain rfl := Option.some.inj ht2
    obtain ⟨x2, e2, w2⟩ := sh3 (show shaped cod T n 3 [a3] from g2)
    simp only [List.cons.injEq, and_true] at e2
    obtain ⟨rfl, rfl⟩ := e0
    obtain rfl := e1
    obtain rfl := e2
    exact ⟨⟨x0, x1, x2⟩, rfl, w0, w1, w2⟩
theorem sh30 {n : Nat} {avs : List V} (h : shaped cod T n 30 avs) : ∃ x : List DItem, avs = [.inl false .item x] ∧ (x.length ≤ maxLen ∧ ∀ y ∈ x, wf_item y) := by
  cases n with
  | zero => exact h.elim
  | succ n =>
    obtain ⟨xs, h1, h2, h3⟩ := (h : ∃ xs : List (TyK .item), avs = [.inl false .item xs] ∧ xs.length ≤ maxLen ∧ ∀ x ∈ xs, shaped cod T n 68 (kenc .item x))
    refine ⟨xs, h1, h2, fun y hy => ?_⟩
    obtain ⟨z, hz, hw⟩ := sh68 (h3 y hy)
    have hz : ([.lit (.string y.Part.Text), .lit (.bool y.Part.Last), .lit (.bool y.Has), .lit (.int .i64 y.Since)] : List V) = [.lit (.string z.Part.Text), .lit (.bool z.Part.Last), .lit (.bool z.Has), .lit (.int .i64 z.Since)] := hz
    have : y = z := by
      simp only [List.cons.injEq, AV.lit.injEq, AV.inl.injEq, Value.int.injEq, Value.string.injEq, Value.bool.injEq, true_and, and_true, heq_eq_eq] at hz
      exact eq_DItem y z hz
    subst this
    exact hw
theorem sh32 {n : Nat} {avs : List V} (h : shaped cod T n 32 avs) : ∃ x : DSend, avs = [.lit (.int .i64 x.Base), .inl false .item x.Items] ∧ wfDSend x := by
  cases n with
  | zero => exact h.elim
  | succ n =>
    obtain ⟨hl, hf⟩ := (h : avs.length = 2 ∧ ∀ f ∈ ([(0, 3), (1, 30)] : List (Nat × TypeId)), ∃ tf, T f.2 = some tf ∧ shaped cod T n f.2 ((avs.drop f.1).take tf.size))
    obtain ⟨a0, a1, rfl⟩ := list2 hl
    obtain ⟨t0, ht0, g0⟩ := hf (0, 3) (by simp)
    obtain rfl := Option.some.inj ht0
    obtain ⟨x0, e0, w0⟩ := sh3 (show shaped cod T n 3 [a0] from g0)
    simp only [List.cons.injEq, and_true] at e0
    obtain ⟨t1, ht1, g1⟩ := hf (1, 30) (by simp)
    obtain rfl := Option.some.inj ht1
    obtain ⟨x1, e1, w1⟩ := sh30 (show shaped cod T n 30 [a1] from g1)
    simp only [List.cons.injEq, and_true] at e1
    obtain rfl := e0
    obtain rfl := e1
    exact ⟨⟨x0, x1⟩, rfl, w0, w1⟩
theorem sh59 {n : Nat} {avs : List V} (h : shaped cod T n 59 avs) : ∃ x : DItem, avs = [.lit (.string x.Part.Text), .lit (.bool x.Part.Last), .lit (.bool x.Has), .lit (.int .i64 x.Since)] ∧ wfDItem x := by
  cases n with
  | zero => exact h.elim
  | succ n =>
    obtain ⟨hl, hf⟩ := (h : avs.length = 4 ∧ ∀ f ∈ ([(0, 54), (2, 4), (3, 3)] : List (Nat × TypeId)), ∃ tf, T f.2 = some tf ∧ shaped cod T n f.2 ((avs.drop f.1).take tf.size))
    obtain ⟨a0, a1, a2, a3, rfl⟩ := list4 hl
    obtain ⟨t0, ht0, g0⟩ := hf (0, 54) (by simp)
    obtain rfl := Option.some.inj ht0
    obtain ⟨x0, e0, w0⟩ := sh54 (show shaped cod T n 54 [a0, a1] from g0)
    simp only [List.cons.injEq, and_true] at e0
    obtain ⟨t1, ht1, g1⟩ := hf (2, 4) (by simp)
    obtain rfl := Option.some.inj ht1
    obtain ⟨x1, e1, w1⟩ := sh4 (show shaped cod T n 4 [a2] from g1)
    simp only [List.cons.injEq, and_true] at e1
    obtain ⟨t2, ht2, g2⟩ := hf (3, 3) (by simp)
    obtain rfl := Option.some.inj ht2
    obtain ⟨x2, e2, w2⟩ := sh3 (show shaped cod T n 3 [a3] from g2)
    simp only [List.cons.injEq, and_true] at e2
    obtain ⟨rfl, rfl⟩ := e0
    obtain rfl := e1
    obtain rfl := e2
    exact ⟨⟨x0, x1, x2⟩, rfl, w0, w1, w2⟩
theorem sh35 {n : Nat} {avs : List V} (h : shaped cod T n 35 avs) : ∃ x : List DItem, avs = [.inl false .item x] ∧ (x.length ≤ maxLen ∧ ∀ y ∈ x, wf_item y) := by
  cases n with
  | zero => exact h.elim
  | succ n =>
    obtain ⟨xs, h1, h2, h3⟩ := (h : ∃ xs : List (TyK .item), avs = [.inl false .item xs] ∧ xs.length ≤ maxLen ∧ ∀ x ∈ xs, shaped cod T n 59 (kenc .item x))
    refine ⟨xs, h1, h2, fun y hy => ?_⟩
    obtain ⟨z, hz, hw⟩ := sh59 (h3 y hy)
    have hz : ([.lit (.string y.Part.Text), .lit (.bool y.Part.Last), .lit (.bool y.Has), .lit (.int .i64 y.Since)] : List V) = [.lit (.string z.Part.Text), .lit (.bool z.Part.Last), .lit (.bool z.Has), .lit (.int .i64 z.Since)] := hz
    have : y = z := by
      simp only [List.cons.injEq, AV.lit.injEq, AV.inl.injEq, Value.int.injEq, Value.string.injEq, Value.bool.injEq, true_and, and_true, heq_eq_eq] at hz
      exact eq_DItem y z hz
    subst this
    exact hw
theorem sh37 {n : Nat} {avs : List V} (h : shaped cod T n 37 avs) : ∃ x : DSend, avs = [.lit (.int .i64 x.Base), .inl false .item x.Items] ∧ wfDSend x := by
  cases n with
  | zero => exact h.elim
  | succ n =>
    obtain ⟨hl, hf⟩ := (h : avs.length = 2 ∧ ∀ f ∈ ([(0, 3), (1, 35)] : List (Nat × TypeId)), ∃ tf, T f.2 = some tf ∧ shaped cod T n f.2 ((avs.drop f.1).take tf.size))
    obtain ⟨a0, a1, rfl⟩ := list2 hl
    obtain ⟨t0, ht0, g0⟩ := hf (0, 3) (by simp)
    obtain rfl := Option.some.inj ht0
    obtain ⟨x0, e0, w0⟩ := sh3 (show shaped cod T n 3 [a0] from g0)
    simp only [List.cons.injEq, and_true] at e0
    obtain ⟨t1, ht1, g1⟩ := hf (1, 35) (by simp)
    obtain rfl := Option.some.inj ht1
    obtain ⟨x1, e1, w1⟩ := sh35 (show shaped cod T n 35 [a1] from g1)
    simp only [List.cons.injEq, and_true] at e1
    obtain rfl := e0
    obtain rfl := e1
    exact ⟨⟨x0, x1⟩, rfl, w0, w1⟩
theorem sh42 {n : Nat} {avs : List V} (h : shaped cod T n 42 avs) : ∃ x : DPacket, avs = [.lit (.int .i64 x.Kind), .lit (.int .i64 x.From), .lit (.int .i64 x.Mine), .lit (.int .i64 x.Yours), .lit (.int .i64 x.Next), .lit (.int .i64 x.Mask), .lit (.int .i64 x.Seq), .lit (.bool x.Last), .lit (.string x.Part)] ∧ wfDPacket x := by
  cases n with
  | zero => exact h.elim
  | succ n =>
    obtain ⟨hl, hf⟩ := (h : avs.length = 9 ∧ ∀ f ∈ ([(0, 3), (1, 3), (2, 3), (3, 3), (4, 3), (5, 3), (6, 3), (7, 4), (8, 9)] : List (Nat × TypeId)), ∃ tf, T f.2 = some tf ∧ shaped cod T n f.2 ((avs.drop f.1).take tf.size))
    obtain ⟨a0, a1, a2, a3, a4, a5, a6, a7, a8, rfl⟩ := list9 hl
    obtain ⟨t0, ht0, g0⟩ := hf (0, 3) (by simp)
    obtain rfl := Option.some.inj ht0
    obtain ⟨x0, e0, w0⟩ := sh3 (show shaped cod T n 3 [a0] from g0)
    simp only [List.cons.injEq, and_true] at e0
    obtain ⟨t1, ht1, g1⟩ := hf (1, 3) (by simp)
    obtain rfl := Option.some.inj ht1
    obtain ⟨x1, e1, w1⟩ := sh3 (show shaped cod T n 3 [a1] from g1)
    simp only [List.cons.injEq, and_true] at e1
    obtain ⟨t2, ht2, g2⟩ := hf (2, 3) (by simp)
    obtain rfl := Option.some.inj ht2
    obtain ⟨x2, e2, w2⟩ := sh3 (show shaped cod T n 3 [a2] from g2)
    simp only [List.cons.injEq, and_true] at e2
    obtain ⟨t3, ht3, g3⟩ := hf (3, 3) (by simp)
    obtain rfl := Option.some.inj ht3
    obtain ⟨x3, e3, w3⟩ := sh3 (show shaped cod T n 3 [a3] from g3)
    simp only [List.cons.injEq, and_true] at e3
    obtain ⟨t4, ht4, g4⟩ := hf (4, 3) (by simp)
    obtain rfl := Option.some.inj ht4
    obtain ⟨x4, e4, w4⟩ := sh3 (show shaped cod T n 3 [a4] from g4)
    simp only [List.cons.injEq, and_true] at e4
    obtain ⟨t5, ht5, g5⟩ := hf (5, 3) (by simp)
    obtain rfl := Option.some.inj ht5
    obtain ⟨x5, e5, w5⟩ := sh3 (show shaped cod T n 3 [a5] from g5)
    simp only [List.cons.injEq, and_true] at e5
    obtain ⟨t6, ht6, g6⟩ := hf (6, 3) (by simp)
    obtain rfl := Option.some.inj ht6
    obtain ⟨x6, e6, w6⟩ := sh3 (show shaped cod T n 3 [a6] from g6)
    simp only [List.cons.injEq, and_true] at e6
    obtain ⟨t7, ht7, g7⟩ := hf (7, 4) (by simp)
    obtain rfl := Option.some.inj ht7
    obtain ⟨x7, e7, w7⟩ := sh4 (show shaped cod T n 4 [a7] from g7)
    simp only [List.cons.injEq, and_true] at e7
    obtain ⟨t8, ht8, g8⟩ := hf (8, 9) (by simp)
    obtain rfl := Option.some.inj ht8
    obtain ⟨x8, e8, w8⟩ := sh9 (show shaped cod T n 9 [a8] from g8)
    simp only [List.cons.injEq, and_true] at e8
    obtain rfl := e0
    obtain rfl := e1
    obtain rfl := e2
    obtain rfl := e3
    obtain rfl := e4
    obtain rfl := e5
    obtain rfl := e6
    obtain rfl := e7
    obtain rfl := e8
    exact ⟨⟨x0, x1, x2, x3, x4, x5, x6, x7, x8⟩, rfl, w0, w1, w2, w3, w4, w5, w6, w7, w8⟩
theorem sh45 {n : Nat} {avs : List V} (h : shaped cod T n 45 avs) : ∃ x : DPacket, avs = [.lit (.int .i64 x.Kind), .lit (.int .i64 x.From), .lit (.int .i64 x.Mine), .lit (.int .i64 x.Yours), .lit (.int .i64 x.Next), .lit (.int .i64 x.Mask), .lit (.int .i64 x.Seq), .lit (.bool x.Last), .lit (.string x.Part)] ∧ wfDPacket x := by
  cases n with
  | zero => exact h.elim
  | succ n =>
    obtain ⟨hl, hf⟩ := (h : avs.length = 9 ∧ ∀ f ∈ ([(0, 3), (1, 3), (2, 3), (3, 3), (4, 3), (5, 3), (6, 3), (7, 4), (8, 9)] : List (Nat × TypeId)), ∃ tf, T f.2 = some tf ∧ shaped cod T n f.2 ((avs.drop f.1).take tf.size))
    obtain ⟨a0, a1, a2, a3, a4, a5, a6, a7, a8, rfl⟩ := list9 hl
    obtain ⟨t0, ht0, g0⟩ := hf (0, 3) (by simp)
    obtain rfl := Option.some.inj ht0
    obtain ⟨x0, e0, w0⟩ := sh3 (show shaped cod T n 3 [a0] from g0)
    simp only [List.cons.injEq, and_true] at e0
    obtain ⟨t1, ht1, g1⟩ := hf (1, 3) (by simp)
    obtain rfl := Option.some.inj ht1
    obtain ⟨x1, e1, w1⟩ := sh3 (show shaped cod T n 3 [a1] from g1)
    simp only [List.cons.injEq, and_true] at e1
    obtain ⟨t2, ht2, g2⟩ := hf (2, 3) (by simp)
    obtain rfl := Option.some.inj ht2
    obtain ⟨x2, e2, w2⟩ := sh3 (show shaped cod T n 3 [a2] from g2)
    simp only [List.cons.injEq, and_true] at e2
    obtain ⟨t3, ht3, g3⟩ := hf (3, 3) (by simp)
    obtain rfl := Option.some.inj ht3
    obtain ⟨x3, e3, w3⟩ := sh3 (show shaped cod T n 3 [a3] from g3)
    simp only [List.cons.injEq, and_true] at e3
    obtain ⟨t4, ht4, g4⟩ := hf (4, 3) (by simp)
    obtain rfl := Option.some.inj ht4
    obtain ⟨x4, e4, w4⟩ := sh3 (show shaped cod T n 3 [a4] from g4)
    simp only [List.cons.injEq, and_true] at e4
    obtain ⟨t5, ht5, g5⟩ := hf (5, 3) (by simp)
    obtain rfl := Option.some.inj ht5
    obtain ⟨x5, e5, w5⟩ := sh3 (show shaped cod T n 3 [a5] from g5)
    simp only [List.cons.injEq, and_true] at e5
    obtain ⟨t6, ht6, g6⟩ := hf (6, 3) (by simp)
    obtain rfl := Option.some.inj ht6
    obtain ⟨x6, e6, w6⟩ := sh3 (show shaped cod T n 3 [a6] from g6)
    simp only [List.cons.injEq, and_true] at e6
    obtain ⟨t7, ht7, g7⟩ := hf (7, 4) (by simp)
    obtain rfl := Option.some.inj ht7
    obtain ⟨x7, e7, w7⟩ := sh4 (show shaped cod T n 4 [a7] from g7)
    simp only [List.cons.injEq, and_true] at e7
    obtain ⟨t8, ht8, g8⟩ := hf (8, 9) (by simp)
    obtain rfl := Option.some.inj ht8
    obtain ⟨x8, e8, w8⟩ := sh9 (show shaped cod T n 9 [a8] from g8)
    simp only [List.cons.injEq, and_true] at e8
    obtain rfl := e0
    obtain rfl := e1
    obtain rfl := e2
    obtain rfl := e3
    obtain rfl := e4
    obtain rfl := e5
    obtain rfl := e6
    obtain rfl := e7
    obtain rfl := e8
    exact ⟨⟨x0, x1, x2, x3, x4, x5, x6, x7, x8⟩, rfl, w0, w1, w2, w3, w4, w5, w6, w7, w8⟩
theorem sh49 {n : Nat} {avs : List V} (h : shaped cod T n 49 avs) : ∃ x : Int, avs = [.lit (.int .u64 x)] ∧ (Lit.int .u64 x).wf = true := by
  cases n with
  | zero => exact h.elim
  | succ n =>
    exact h
theorem sh50 {n : Nat} {avs : List V} (h : shaped cod T n 50 avs) : ∃ x : List Int, avs = [.inl false .byte x] ∧ (x.length ≤ maxLen ∧ ∀ y ∈ x, wf_byte y) := by
  cases n with
  | zero => exact h.elim
  | succ n =>
    obtain ⟨xs, h1, h2, h3⟩ := (h : ∃ xs : List (TyK .byte), avs = [.inl false .byte xs] ∧ xs.length ≤ maxLen ∧ ∀ x ∈ xs, shaped cod T n 5 (kenc .byte x))
    refine ⟨xs, h1, h2, fun y hy => ?_⟩
    obtain ⟨z, hz, hw⟩ := sh5 (h3 y hy)
    have hz : ([.lit (.int .u8 y)] : List V) = [.lit (.int .u8 z)] := hz
    have : y = z := by
      simp only [List.cons.injEq, AV.lit.injEq, AV.inl.injEq, Value.int.injEq, Value.string.injEq, Value.bool.injEq, true_and, and_true, heq_eq_eq] at hz
      exact hz
    subst this
    exact hw
theorem sh52 {n : Nat} {avs : List V} (h : shaped cod T n 52 avs) : ∃ x : Int, avs = [.lit (.int .u64 x)] ∧ (Lit.int .u64 x).wf = true := by
  cases n with
  | zero => exact h.elim
  | succ n =>
    exact h
theorem sh80 {n : Nat} {avs : List V} (h : shaped cod T n 80 avs) : ∃ x : Int, avs = [.lit (.int .u32 x)] ∧ (Lit.int .u32 x).wf = true := by
  cases n with
  | zero => exact h.elim
  | succ n =>
    exact h
def rowFull (e : Nat × TI K TyK) : Prop := ∀ e2 s n avs, e.2.shp = .slice e2 s → shaped cod T n e2 avs → ∃ x, cod.enc s x = avs
theorem rowsFull : ∀ e ∈ tbl, rowFull e :=
  all_cons (fun e s n avs h => by cases h) (
  all_cons (fun e s n avs h => by cases h) (
  all_cons (fun e s n avs h => by cases h) (
  all_cons (fun e s n avs h => by cases h) (
  all_cons (fun e s n avs h => by cases h) (
  all_cons (fun e s n avs h => by cases h) (
  all_cons (fun e s n avs h => by cases h) (
  all_cons (fun e s n avs h hs => by cases h; obtain ⟨x, hx, _⟩ := sh54 hs; exact ⟨x, hx.symm⟩) (
  all_cons (fun e s n avs h hs => by cases h; obtain ⟨x, hx, _⟩ := sh68 hs; exact ⟨x, hx.symm⟩) (
  all_cons (fun e s n avs h => by cases h) (
  all_cons (fun e s n avs h hs => by cases h; obtain ⟨x, hx, _⟩ := sh59 hs; exact ⟨x, hx.symm⟩) (
  all_cons (fun e s n avs h => by cases h) (
  all_cons (fun e s n avs h => by cases h) (
  all_cons (fun e s n avs h => by cases h) (
  all_cons (fun e s n avs h => by cases h) (
  all_cons (fun e s n avs h hs => by cases h; obtain ⟨x, hx, _⟩ := sh5 hs; exact ⟨x, hx.symm⟩) (
  all_cons (fun e s n avs h => by cases h) (
  all_cons (fun e s n avs h => by cases h) (
  all_cons (fun e s n avs h => by cases h) (
  all_cons (fun e s n avs h => by cases h) (
  all_cons (fun e s n avs h => by cases h) (
  all_cons (fun e s n avs h => by cases h) (
  all_cons (fun e s n avs h => by cases h) (
  all_cons (fun e s n avs h => by cases h) (all_nil))))))))))))))))))))))))
theorem fullC : FullC cod T := FullC.of (by kernel_rfl) (fun e he => rowsFull e he) (fun s => by cases s <;> decide) (fun _ => rfl)
end Km.X