/- A part of the proof of FnExactRight: each function does what its reading says. There is no condition. -/
import Derived.Test.YthafpbpfnkncmaaKmSeat
import Derived.Test.YthafpbpfnkncmaaKxDef2
namespace Km.X
open Go Km Go.Proofs
set_option linter.unusedVariables false
set_option maxRecDepth 100000
set_option maxHeartbeats 4000000
noncomputable def S_laws_szPart (k : Nat) : Summ K TyK := sm cod (Int) [.bo, .bo] [.g [.s, .b], .c (.i .i64)] [] (fun k v1 v2 v3 => laws_szPart k (⟨v1, v2⟩ : DPart) v3) k [.c (.i .i64)] [] (fun r => (r, ())) (fun v1 => v1) true
theorem ok_laws_szPart (k : Nat) : SummOk Try.prog cod 22 (S_laws_szPart k) := sumOk codOk Try.f22 (fun k => lookT []) [] false [.tmp 4] 0 [] mixed Try.func22 (by kernel_rfl) (by kernel_rfl) (by kernel_rfl) (by kernel_rfl)
  (fun k => Known.of tok eok codOk (all_nil))
  (fun k => QuietOk.of (all_nil))
  (fun a => rfl)
  (all_nil)
  (fun k => by (repeat intro _); show _ = _; kernel_rfl)
noncomputable def S_laws_szHeld (k : Nat) : Summ K TyK := sm cod (Int) [.bo, .bo] [.g [.i .i64, .s, .b], .c (.i .i64)] [] (fun k v1 v2 v3 v4 => laws_szHeld k (⟨v1, (⟨v2, v3⟩ : DPart)⟩ : DHeld) v4) k [.c (.i .i64)] [] (fun r => (r, ())) (fun v1 => v1) true
theorem ok_laws_szHeld (k : Nat) : SummOk Try.prog cod 118 (S_laws_szHeld k) := sumOk codOk Try.f118 (fun k => lookT [(22, S_laws_szPart k)]) [] false [.tmp 4] 0 [] mixed Try.func118 (by kernel_rfl) (by kernel_rfl) (by kernel_rfl) (by kernel_rfl)
  (fun k => Known.of tok eok codOk (all_cons (ok_laws_szPart k) (all_nil)))
  (fun k => QuietOk.of (all_cons (fun h r => ⟨rfl, rfl⟩) (all_nil)))
  (fun a => rfl)
  (all_nil)
  (fun k => by (repeat intro _); show _ = _; kernel_rfl)
noncomputable def S_laws_szHeldS (k : Nat) : Summ K TyK := sm cod (Int) [.bo, .bo] [.c (.l true .held), .c (.i .i64)] [] (laws_szHeldS) k [.c (.i .i64)] [] (fun r => (r, ())) (fun v1 => v1) true
noncomputable abbrev L_laws_szHeldS : List (Nat × Cut K TyK (Int)) := [(5, ct cod [0, 1, 5] [.c (.l true .held), .c (.i .i64), .c (.i .i64)] [] laws_szHeldS_l5)]
theorem ok_laws_szHeldS (k : Nat) : SummOk Try.prog cod 59 (S_laws_szHeldS k) := sumOk codOk Try.f59 (fun k => lookT [(118, S_laws_szHeld k)]) L_laws_szHeldS false [.tmp 4] 0 [] mixed Try.func59 (by kernel_rfl) (by kernel_rfl) (by kernel_rfl) (by kernel_rfl)
  (fun k => Known.of tok eok codOk (all_cons (ok_laws_szHeld k) (all_nil)))
  (fun k => QuietOk.of (all_cons (fun h r => ⟨rfl, rfl⟩) (all_nil)))
  (fun a => rfl)
  (all_cons (ctGood codOk (by kernel_rfl) (by (repeat intro _); show _ = _; kernel_rfl) (fun k => by (repeat intro _); show _ = _; kernel_rfl)) (all_nil))
  (fun k => by (repeat intro _); show _ = _; kernel_rfl)
noncomputable def S_laws_szStringS (k : Nat) : Summ K TyK := sm cod (Int) [.bo, .bo] [.c (.l true .str), .c (.i .i64)] [] (laws_szStringS) k [.c (.i .i64)] [] (fun r => (r, ())) (fun v1 => v1) true
noncomputable abbrev L_laws_szStringS : List (Nat × Cut K TyK (Int)) := [(5, ct cod [0, 1, 5] [.c (.l true .str), .c (.i .i64), .c (.i .i64)] [] laws_szStringS_l5)]
theorem ok_laws_szStringS (k : Nat) : SummOk Try.prog cod 60 (S_laws_szStringS k) := sumOk codOk Try.f60 (fun k => lookT []) L_laws_szStringS false [.tmp 4] 0 [] mixed Try.func60 (by kernel_rfl) (by kernel_rfl) (by kernel_rfl) (by kernel_rfl)
  (fun k => Known.of tok eok codOk (all_nil))
  (fun k => QuietOk.of (all_nil))
  (fun a => rfl)
  (all_cons (ctGood codOk (by kernel_rfl) (by (repeat intro _); show _ = _; kernel_rfl) (fun k => by (repeat intro _); show _ = _; kernel_rfl)) (all_nil))
  (fun k => by (repeat intro _); show _ = _; kernel_rfl)
noncomputable def S_laws_szTake (k : Nat) : Summ K TyK := sm cod (Int) [.bo, .bo] [.g [.i .i64, .l true .held, .s, .l true .str], .c (.i .i64)] [] (fun k v1 v2 v3 v4 v5 => laws_szTake k (⟨v1, v2, v3, v4⟩ : DTake) v5) k [.c (.i .i64)] [] (fun r => (r, ())) (fun v1 => v1) true
theorem ok_laws_szTake (k : Nat) : SummOk Try.prog cod 15 (S_laws_szTake k) := sumOk codOk Try.f15 (fun k => lookT [(59, S_laws_szHeldS k), (60, S_laws_szStringS k)]) [] false [.tmp 4] 0 [] mixed Try.func15 (by kernel_rfl) (by kernel_rfl) (by kernel_rfl) (by kernel_rfl)
  (fun k => Known.of tok eok codOk (all_cons (ok_laws_szHeldS k) (all_cons (ok_laws_szStringS k) (all_nil))))
  (fun k => QuietOk.of (all_cons (fun h r => ⟨rfl, rfl⟩) (all_cons (fun h r => ⟨rfl, rfl⟩) (all_nil))))
  (fun a => rfl)
  (all_nil)
  (fun k => by (repeat intro _); show _ = _; kernel_rfl)
noncomputable def S_laws_toPart (k : Nat) : Summ K TyK := sm cod (DPart) [.bo] [.g [.s, .b]] [] (fun k v1 v2 => laws_toPart k (⟨v1, v2⟩ : DPart)) k [.g [.s, .b]] [] (fun r => (r.Text, r.Last, ())) (fun v1 v2 => (⟨v1, v2⟩ : DPart)) true
theorem ok_laws_toPart (k : Nat) : SummOk Try.prog cod 24 (S_laws_toPart k) := sumOk codOk Try.f24 (fun k => lookT []) [] false [.cell 2 40] 0 [] mixed Try.func24 (by kernel_rfl) (by kernel_rfl) (by kernel_rfl) (by kernel_rfl)
  (fun k => Known.of tok eok codOk (all_nil))
  (fun k => QuietOk.of (all_nil))
  (fun a => rfl)
  (all_nil)
  (fun k => by (repeat intro _); show _ = _; kernel_rfl)
noncomputable def S_laws_toHeld (k : Nat) : Summ K TyK := sm cod (DHeld) [.bo] [.g [.i .i64, .s, .b]] [] (fun k v1 v2 v3 => laws_toHeld k (⟨v1, (⟨v2, v3⟩ : DPart)⟩ : DHeld)) k [.g [.i .i64, .s, .b]] [] (fun r => (r.Seq, r.Part.Text, r.Part.Last, ())) (fun v1 v2 v3 => (⟨v1, (⟨v2, v3⟩ : DPart)⟩ : DHeld)) true
theorem ok_laws_toHeld (k : Nat) : SummOk Try.prog cod 120 (S_laws_toHeld k) := sumOk codOk Try.f120 (fun k => lookT [(24, S_laws_toPart k)]) [] false [.cell 2 97] 0 [] mixed Try.func120 (by kernel_rfl) (by kernel_rfl) (by kernel_rfl) (by kernel_rfl)
  (fun k => Known.of tok eok codOk (all_cons (ok_laws_toPart k) (all_nil)))
  (fun k => QuietOk.of (all_cons (fun h r => ⟨rfl, rfl⟩) (all_nil)))
  (fun a => rfl)
  (all_nil)
  (fun k => by (repeat intro _); show _ = _; kernel_rfl)
noncomputable def S_laws_toHeldS (k : Nat) : Summ K TyK := sm cod (List DHeld) [.bo] [.c (.l true .held)] [] (laws_toHeldS) k [.c (.o 0)] [.l .held] (fun r => ((), r, ())) (fun v1 => v1) false
noncomputable abbrev L_laws_toHeldS : List (Nat × Cut K TyK (List DHeld)) := [(3, ct cod [0, 3, 4] [.c (.l true .held), .c (.o 0), .c (.i .i64)] [.l .held] laws_toHeldS_l3)]
theorem ok_laws_toHeldS (k : Nat) : SummOk Try.prog cod 64 (S_laws_toHeldS k) := sumOk codOk Try.f64 (fun k => lookT [(120, S_laws_toHeld k)]) L_laws_toHeldS false [.tmp 2] 0 [] mixed Try.func64 (by kernel_rfl) (by kernel_rfl) (by kernel_rfl) (by kernel_rfl)
  (fun k => Known.of tok eok codOk (all_cons (ok_laws_toHeld k) (all_nil)))
  (fun k => QuietOk.of (all_cons (fun h r => ⟨rfl, rfl⟩) (all_nil)))
  (fun a => rfl)
  (all_cons (ctGood codOk (by kernel_rfl) (by (repeat intro _); show _ = _; kernel_rfl) (fun k => by (repeat intro _); show _ = _; kernel_rfl)) (all_nil))
  (fun k => by (repeat intro _); show _ = _; kernel_rfl)
noncomputable def S_laws_toStringS (k : Nat) : Summ K TyK := sm cod (List ByteArray) [.bo] [.c (.l true .str)] [] (laws_toStringS) k [.c (.o 0)] [.l .str] (fun r => ((), r, ())) (fun v1 => v1) false
noncomputable abbrev L_laws_toStringS : List (Nat × Cut K TyK (List ByteArray)) := [(3, ct cod [0, 3, 4] [.c (.l true .str), .c (.o 0), .c (.i .i64)] [.l .str] laws_toStringS_l3)]
theorem ok_laws_toStringS (k : Nat) : SummOk Try.prog cod 65 (S_laws_toStringS k) := sumOk codOk Try.f65 (fun k => lookT []) L_laws_toStringS false [.tmp 2] 0 [] mixed Try.func65 (by kernel_rfl) (by kernel_rfl) (by kernel_rfl) (by kernel_rfl)
  (fun k => Known.of tok eok codOk (all_nil))
  (fun k => QuietOk.of (all_nil))
  (fun a => rfl)
  (all_cons (ctGood codOk (by kernel_rfl) (by (repeat intro _); show _ = _; kernel_rfl) (fun k => by (repeat intro _); show _ = _; kernel_rfl)) (all_nil))
  (fun k => by (repeat intro _); show _ = _; kernel_rfl)
noncomputable def S_laws_toTake (k : Nat) : Summ K TyK := sm cod (DTake) [.bo] [.g [.i .i64, .l true .held, .s, .l true .str]] [] (fun k v1 v2 v3 v4 => laws_toTake k (⟨v1, v2, v3, v4⟩ : DTake)) k [.g [.i .i64, .o 0, .s, .o 1]] [.l .held, .l .str] (fun r => (r.Next, (), r.Open, (), r.Held, r.Ready, ())) (fun v1 v2 v3 v4 => (⟨v1, v3, v2, v4⟩ : DTake)) false
theorem ok_laws_toTake (k : Nat) : SummOk Try.prog cod 17 (S_laws_toTake k) := sumOk codOk Try.f17 (fun k => lookT [(64, S_laws_toHeldS k), (65, S_laws_toStringS k)]) [] false [.cell 2 29] 0 [] mixed Try.func17 (by kernel_rfl) (by kernel_rfl) (by kernel_rfl) (by kernel_rfl)
  (fun k => Known.of tok eok codOk (all_cons (ok_laws_toHeldS k) (all_cons (ok_laws_toStringS k) (all_nil))))
  (fun k => QuietOk.of (all_cons (fun h r => by cases h) (all_cons (fun h r => by cases h) (all_nil))))
  (fun a => rfl)
  (all_nil)
  (fun k => by (repeat intro _); show _ = _; kernel_rfl)
noncomputable def S_spec_l1In (k : Nat) : Summ K TyK := sm cod (Bool) [.bo, .bo, .bo] [.c (.i .i64), .c (.i .i64), .c (.i .i64)] [] (spec_l1In) k [.c (.b)] [] (fun r => (r, ())) (fun v1 => v1) true
theorem ok_spec_l1In (k : Nat) : SummOk Try.prog cod 78 (S_spec_l1In k) := sumOk codOk Try.f78 (fun k => lookT []) [] false [.tmp 6] 0 [] mixed Try.func78 (by kernel_rfl) (by kernel_rfl) (by kernel_rfl) (by kernel_rfl)
  (fun k => Known.of tok eok codOk (all_nil))
  (fun k => QuietOk.of (all_nil))
  (fun a => rfl)
  (all_nil)
  (fun k => by (repeat intro _); show _ = _; kernel_rfl)
noncomputable def S_spec_l5Near (k : Nat) : Summ K TyK := sm cod (Bool) [.bo, .bo] [.g [.i .i64, .l true .held, .s, .l true .str], .c (.i .i64)] [] (fun k v1 v2 v3 v4 v5 => spec_l5Near k (⟨v1, v2, v3, v4⟩ : DTake) v5) k [.c (.b)] [] (fun r => (r, ())) (fun v1 => v1) true
theorem ok_spec_l5Near (k : Nat) : SummOk Try.prog cod 75 (S_spec_l5Near k) := sumOk codOk Try.f75 (fun k => lookT [(78, S_spec_l1In k)]) [] false [.tmp 4] 0 [] mixed Try.func75 (by kernel_rfl) (by kernel_rfl) (by kernel_rfl) (by kernel_rfl)
  (fun k => Known.of tok eok codOk (all_cons (ok_spec_l1In k) (all_nil)))
  (fun k => QuietOk.of (all_cons (fun h r => ⟨rfl, rfl⟩) (all_nil)))
  (fun a => rfl)
  (all_nil)
  (fun k => by (repeat intro _); show _ = _; kernel_rfl)
noncomputable def S_spec_l5Can (k : Nat) : Summ K TyK := sm cod (Bool) [.bo, .bo] [.g [.i .i64, .l true .held, .s, .l true .str], .g [.s, .b]] [] (fun k v1 v2 v3 v4 v5 v6 => spec_l5Can k (⟨v1, v2, v3, v4⟩ : DTake) (⟨v5, v6⟩ : DPart)) k [.c (.b)] [] (fun r => (r, ())) (fun v1 => v1) true
theorem ok_spec_l5Can (k : Nat) : SummOk Try.prog cod 119 (S_spec_l5Can k) := sumOk codOk Try.f119 (fun k => lookT []) [] false [.tmp 4] 0 [] mixed Try.func119 (by kernel_rfl) (by kernel_rfl) (by kernel_rfl) (by kernel_rfl)
  (fun k => Known.of tok eok codOk (all_nil))
  (fun k => QuietOk.of (all_nil))
  (fun a => rfl)
  (all_nil)
  (fun k => by (repeat intro _); show _ = _; kernel_rfl)
noncomputable def S_spec_ValidTake (k : Nat) : Summ K TyK := sm cod (Bool) [.bo] [.g [.i .i64, .l true .held, .s, .l true .str]] [] (fun k v1 v2 v3 v4 => spec_ValidTake k (⟨v1, v2, v3, v4⟩ : DTake)) k [.c (.b)] [] (fun r => (r, ())) (fun v1 => v1) true
noncomputable abbrev L_spec_ValidTake : List (Nat × Cut K TyK (Bool)) := [(4, ct cod [1, 3] [.c (.r 0 0), .c (.i .i64)] [.x [.i .i64, .l true .held, .s, .l true .str]] spec_ValidTake_l4),
  (9, ct cod [1, 4] [.c (.r 0 0), .c (.i .i64)] [.x [.i .i64, .l true .held, .s, .l true .str]] spec_ValidTake_l9)]
theorem ok_spec_ValidTake (k : Nat) : SummOk Try.prog cod 61 (S_spec_ValidTake k) := sumOk codOk Try.f61 (fun k => lookT [(78, S_spec_l1In k), (75, S_spec_l5Near k), (119, S_spec_l5Can k)]) L_spec_ValidTake false [.tmp 2] 0 [] mixed Try.func61 (by kernel_rfl) (by kernel_rfl) (by kernel_rfl) (by kernel_rfl)
  (fun k => Known.of tok eok codOk (all_cons (ok_spec_l1In k) (all_cons (ok_spec_l5Near k) (all_cons (ok_spec_l5Can k) (all_nil)))))
  (fun k => QuietOk.of (all_cons (fun h r => ⟨rfl, rfl⟩) (all_cons (fun h r => ⟨rfl, rfl⟩) (all_cons (fun h r => ⟨rfl, rfl⟩) (all_nil)))))
  (fun a => rfl)
  (all_cons (ctGood codOk (by kernel_rfl) (by (repeat intro _); show _ = _; kernel_rfl) (fun k => by (repeat intro _); show _ = _; kernel_rfl)) (all_cons (ctGood codOk (by kernel_rfl) (by (repeat intro _); show _ = _; kernel_rfl) (fun k => by (repeat intro _); show _ = _; kernel_rfl)) (all_nil)))
  (fun k => by (repeat intro _); show _ = _; kernel_rfl)
noncomputable def S_impl_in (k : Nat) : Summ K TyK := sm cod (Bool) [.bo, .bo, .bo] [.c (.i .i64), .c (.i .i64), .c (.i .i64)] [] (impl_in) k [.c (.b)] [] (fun r => (r, ())) (fun v1 => v1) true
theorem ok_impl_in (k : Nat) : SummOk Try.prog cod 76 (S_impl_in k) := sumOk codOk Try.f76 (fun k => lookT []) [] false [.tmp 6] 0 [] mixed Try.func76 (by kernel_rfl) (by kernel_rfl) (by kernel_rfl) (by kernel_rfl)
  (fun k => Known.of tok eok codOk (all_nil))
  (fun k => QuietOk.of (all_nil))
  (fun a => rfl)
  (all_nil)
  (fun k => by (repeat intro _); show _ = _; kernel_rfl)
noncomputable def S_impl_goes (k : Nat) : Summ K TyK := sm cod (Bool) [.bo, .bo] [.g [.i .i64, .l true .held, .s, .l true .str], .g [.s, .b]] [] (fun k v1 v2 v3 v4 v5 v6 => impl_goes k (⟨v1, v2, v3, v4⟩ : DTake) (⟨v5, v6⟩ : DPart)) k [.c (.b)] [] (fun r => (r, ())) (fun v1 => v1) true
theorem ok_impl_goes (k : Nat) : SummOk Try.prog cod 121 (S_impl_goes k) := sumOk codOk Try.f121 (fun k => lookT []) [] false [.tmp 4] 0 [] mixed Try.func121 (by kernel_rfl) (by kernel_rfl) (by kernel_rfl) (by kernel_rfl)
  (fun k => Known.of tok eok codOk (all_nil))
  (fun k => QuietOk.of (all_nil))
  (fun a => rfl)
  (all_nil)
  (fun k => by (repeat intro _); show _ = _; kernel_rfl)
noncomputable def S_impl_ValidTake (k : Nat) : Summ K TyK := sm cod (Bool) [.bo] [.g [.i .i64, .l true .held, .s, .l true .str]] [] (fun k v1 v2 v3 v4 => impl_ValidTake k (⟨v1, v2, v3, v4⟩ : DTake)) k [.c (.b)] [] (fun r => (r, ())) (fun v1 => v1) true
noncomputable abbrev L_impl_ValidTake : List (Nat × Cut K TyK (Bool)) := [(4, ct cod [1, 30, 31, 32] [.c (.r 0 0), .c (.l true .held), .c (.i .i64), .c (.i .i64)] [.x [.i .i64, .l true .held, .s, .l true .str]] impl_ValidTake_l4),
  (12, ct cod [88, 89, 90] [.c (.l true .str), .c (.i .i64), .c (.i .i64)] [] impl_ValidTake_l12)]
theorem ok_impl_ValidTake (k : Nat) : SummOk Try.prog cod 66 (S_impl_ValidTake k) := sumOk codOk Try.f66 (fun k => lookT [(76, S_impl_in k), (121, S_impl_goes k)]) L_impl_ValidTake false [.tmp 2] 0 [] mixed Try.func66 (by kernel_rfl) (by kernel_rfl) (by kernel_rfl) (by kernel_rfl)
  (fun k => Known.of tok eok codOk (all_cons (ok_impl_in k) (all_cons (ok_impl_goes k) (all_nil))))
  (fun k => QuietOk.of (all_cons (fun h r => ⟨rfl, rfl⟩) (all_cons (fun h r => ⟨rfl, rfl⟩) (all_nil))))
  (fun a => rfl)
  (all_cons (ctGood codOk (by kernel_rfl) (by (repeat intro _); show _ = _; kernel_rfl) (fun k => by (repeat intro _); show _ = _; kernel_rfl)) (all_cons (ctGood codOk (by kernel_rfl) (by (repeat intro _); show _ = _; kernel_rfl) (fun k => by (repeat intro _); show _ = _; kernel_rfl)) (all_nil)))
  (fun k => by (repeat intro _); show _ = _; kernel_rfl)
noncomputable def S_laws_eqPart (k : Nat) : Summ K TyK := sm cod (Bool) [.bo, .bo] [.g [.s, .b], .g [.s, .b]] [] (fun k v1 v2 v3 v4 => laws_eqPart k (⟨v1, v2⟩ : DPart) (⟨v3, v4⟩ : DPart)) k [.c (.b)] [] (fun r => (r, ())) (fun v1 => v1) true
theorem ok_laws_eqPart (k : Nat) : SummOk Try.prog cod 140 (S_laws_eqPart k) := sumOk codOk Try.f140 (fun k => lookT []) [] false [.tmp 4] 0 [] mixed Try.func140 (by kernel_rfl) (by kernel_rfl) (by kernel_rfl) (by kernel_rfl)
  (fun k => Known.of tok eok codOk (all_nil))
  (fun k => QuietOk.of (all_nil))
  (fun a => rfl)
  (all_nil)
  (fun k => by (repeat intro _); show _ = _; kernel_rfl)
noncomputable def S_laws_eqHeld (k : Nat) : Summ K TyK := sm cod (Bool) [.bo, .bo] [.g [.i .i64, .s, .b], .g [.i .i64, .s, .b]] [] (fun k v1 v2 v3 v4 v5 v6 => laws_eqHeld k (⟨v1, (⟨v2, v3⟩ : DPart)⟩ : DHeld) (⟨v4, (⟨v5, v6⟩ : DPart)⟩ : DHeld)) k [.c (.b)] [] (fun r => (r, ())) (fun v1 => v1) true
theorem ok_laws_eqHeld (k : Nat) : SummOk Try.prog cod 122 (S_laws_eqHeld k) := sumOk codOk Try.f122 (fun k => lookT [(140, S_laws_eqPart k)]) [] false [.tmp 4] 0 [] mixed Try.func122 (by kernel_rfl) (by kernel_rfl) (by kernel_rfl) (by kernel_rfl)
  (fun k => Known.of tok eok codOk (all_cons (ok_laws_eqPart k) (all_nil)))
  (fun k => QuietOk.of (all_cons (fun h r => ⟨rfl, rfl⟩) (all_nil)))
  (fun a => rfl)
  (all_nil)
  (fun k => by (repeat intro _); show _ = _; kernel_rfl)
noncomputable def S_laws_eqHeldS (k : Nat) : Summ K TyK := sm cod (Bool) [.bo, .bo] [.c (.l true .held), .c (.l true .held)] [] (laws_eqHeldS) k [.c (.b)] [] (fun r => (r, ())) (fun v1 => v1) true
noncomputable abbrev L_laws_eqHeldS : List (Nat × Cut K TyK (Bool)) := [(4, ct cod [0, 1, 5] [.c (.l true .held), .c (.l true .held), .c (.i .i64)] [] laws_eqHeldS_l4)]
theorem ok_laws_eqHeldS (k : Nat) : SummOk Try.prog cod 69 (S_laws_eqHeldS k) := sumOk codOk Try.f69 (fun k => lookT [(122, S_laws_eqHeld k)]) L_laws_eqHeldS false [.tmp 4] 0 [] mixed Try.func69 (by kernel_rfl) (by kernel_rfl) (by kernel_rfl) (by kernel_rfl)
  (fun k => Known.of tok eok codOk (all_cons (ok_laws_eqHeld k) (all_nil)))
  (fun k => QuietOk.of (all_cons (fun h r => ⟨rfl, rfl⟩) (all_nil)))
  (fun a => rfl)
  (all_cons (ctGood codOk (by kernel_rfl) (by (repeat intro _); show _ = _; kernel_rfl) (fun k => by (repeat intro _); show _ = _; kernel_rfl)) (all_nil))
  (fun k => by (repeat intro _); show _ = _; kernel_rfl)
noncomputable def S_laws_eqStringS (k : Nat) : Summ K TyK := sm cod (Bool) [.bo, .bo] [.c (.l true .str), .c (.l true .str)] [] (laws_eqStringS) k [.c (.b)] [] (fun r => (r, ())) (fun v1 => v1) true
noncomputable abbrev L_laws_eqStringS : List (Nat × Cut K TyK (Bool)) := [(4, ct cod [0, 1, 5] [.c (.l true .str), .c (.l true .str), .c (.i .i64)] [] laws_eqStringS_l4)]
theorem ok_laws_eqStringS (k : Nat) : SummOk Try.prog cod 70 (S_laws_eqStringS k) := sumOk codOk Try.f70 (fun k => lookT []) L_laws_eqStringS false [.tmp 4] 0 [] mixed Try.func70 (by kernel_rfl) (by kernel_rfl) (by kernel_rfl) (by kernel_rfl)
  (fun k => Known.of tok eok codOk (all_nil))
  (fun k => QuietOk.of (all_nil))
  (fun a => rfl)
  (all_cons (ctGood codOk (by kernel_rfl) (by (repeat intro _); show _ = _; kernel_rfl) (fun k => by (repeat intro _); show _ = _; kernel_rfl)) (all_nil))
  (fun k => by (repeat intro _); show _ = _; kernel_rfl)
noncomputable def S_laws_eqTake (k : Nat) : Summ K TyK := sm cod (Bool) [.bo, .bo] [.g [.i .i64, .l true .held, .s, .l true .str], .g [.i .i64, .l true .held, .s, .l true .str]] [] (fun k v1 v2 v3 v4 v5 v6 v7 v8 => laws_eqTake k (⟨v1, v2, v3, v4⟩ : DTake) (⟨v5, v6, v7, v8⟩ : DTake)) k [.c (.b)] [] (fun r => (r, ())) (fun v1 => v1) true
theorem ok_laws_eqTake (k : Nat) : SummOk Try.prog cod 19 (S_laws_eqTake k) := sumOk codOk Try.f19 (fun k => lookT [(69, S_laws_eqHeldS k), (70, S_laws_eqStringS k)]) [] false [.tmp 4] 0 [] mixed Try.func19 (by kernel_rfl) (by kernel_rfl) (by kernel_rfl) (by kernel_rfl)
  (fun k => Known.of tok eok codOk (all_cons (ok_laws_eqHeldS k) (all_cons (ok_laws_eqStringS k) (all_nil))))
  (fun k => QuietOk.of (all_cons (fun h r => ⟨rfl, rfl⟩) (all_cons (fun h r => ⟨rfl, rfl⟩) (all_nil))))
  (fun a => rfl)
  (all_nil)
  (fun k => by (repeat intro _); show _ = _; kernel_rfl)
noncomputable def S_laws_szItem (k : Nat) : Summ K TyK := sm cod (Int) [.bo, .bo] [.g [.s, .b, .b, .i .i64], .c (.i .i64)] [] (fun k v1 v2 v3 v4 v5 => laws_szItem k (⟨(⟨v1, v2⟩ : DPart), v3, v4⟩ : DItem) v5) k [.c (.i .i64)] [] (fun r => (r, ())) (fun v1 => v1) true
theorem ok_laws_szItem (k : Nat) : SummOk Try.prog cod 141 (S_laws_szItem k) := sumOk codOk Try.f141 (fun k => lookT [(22, S_laws_szPart k)]) [] false [.tmp 4] 0 [] mixed Try.func141 (by kernel_rfl) (by kernel_rfl) (by kernel_rfl) (by kernel_rfl)
  (fun k => Known.of tok eok codOk (all_cons (ok_laws_szPart k) (all_nil)))
  (fun k => QuietOk.of (all_cons (fun h r => ⟨rfl, rfl⟩) (all_nil)))
  (fun a => rfl)
  (all_nil)
  (fun k => by (repeat intro _); show _ = _; kernel_rfl)
noncomputable def S_laws_szItemS (k : Nat) : Summ K TyK := sm cod (Int) [.bo, .bo] [.c (.l true .item), .c (.i .i64)] [] (laws_szItemS) k [.c (.i .i64)] [] (fun r => (r, ())) (fun v1 => v1) true
noncomputable abbrev L_laws_szItemS : List (Nat × Cut K TyK (Int)) := [(5, ct cod [0, 1, 5] [.c (.l true .item), .c (.i .i64), .c (.i .i64)] [] laws_szItemS_l5)]
theorem ok_laws_szItemS (k : Nat) : SummOk Try.prog cod 124 (S_laws_szItemS k) := sumOk codOk Try.f124 (fun k => lookT [(141, S_laws_szItem k)]) L_laws_szItemS false [.tmp 4] 0 [] mixed Try.func124 (by kernel_rfl) (by kernel_rfl) (by kernel_rfl) (by kernel_rfl)
  (fun k => Known.of tok eok codOk (all_cons (ok_laws_szItem k) (all_nil)))
  (fun k => QuietOk.of (all_cons (fun h r => ⟨rfl, rfl⟩) (all_nil)))
  (fun a => rfl)
  (all_cons (ctGood codOk (by kernel_rfl) (by (repeat intro _); show _ = _; kernel_rfl) (fun k => by (repeat intro _); show _ = _; kernel_rfl)) (all_nil))
  (fun k => by (repeat intro _); show _ = _; kernel_rfl)
noncomputable def S_laws_szSend (k : Nat) : Summ K TyK := sm cod (Int) [.bo, .bo] [.g [.i .i64, .l true .item], .c (.i .i64)] [] (fun k v1 v2 v3 => laws_szSend k (⟨v1, v2⟩ : DSend) v3) k [.c (.i .i64)] [] (fun r => (r, ())) (fun v1 => v1) true
theorem ok_laws_szSend (k : Nat) : SummOk Try.prog cod 77 (S_laws_szSend k) := sumOk codOk Try.f77 (fun k => lookT [(124, S_laws_szItemS k)]) [] false [.tmp 4] 0 [] mixed Try.func77 (by kernel_rfl) (by kernel_rfl) (by kernel_rfl) (by kernel_rfl)
  (fun k => Known.of tok eok codOk (all_cons (ok_laws_szItemS k) (all_nil)))
  (fun k => QuietOk.of (all_cons (fun h r => ⟨rfl, rfl⟩) (all_nil)))
  (fun a => rfl)
  (all_nil)
  (fun k => by (repeat intro _); show _ = _; kernel_rfl)
noncomputable def S_laws_szEnd (k : Nat) : Summ K TyK := sm cod (Int) [.bo, .bo] [.g [.i .i64, .b, .i .i64, .i .i64, .i .i64, .b, .i .i64, .l true .item, .i .i64, .l true .held, .s, .l true .str], .c (.i .i64)] [] (fun k v1 v2 v3 v4 v5 v6 v7 v8 v9 v10 v11 v12 v13 => laws_szEnd k (⟨v1, v2, v3, v4, v5, v6, (⟨v7, v8⟩ : DSend), (⟨v9, v10, v11, v12⟩ : DTake)⟩ : DEnd) v13) k [.c (.i .i64)] [] (fun r => (r, ())) (fun v1 => v1) true
theorem ok_laws_szEnd (k : Nat) : SummOk Try.prog cod 26 (S_laws_szEnd k) := sumOk codOk Try.f26 (fun k => lookT [(77, S_laws_szSend k), (15, S_laws_szTake k)]) [] false [.tmp 4] 0 [] mixed Try.func26 (by kernel_rfl) (by kernel_rfl) (by kernel_rfl) (by kernel_rfl)
  (fun k => Known.of tok eok codOk (all_cons (ok_laws_szSend k) (all_cons (ok_laws_szTake k) (all_nil))))
  (fun k => QuietOk.of (all_cons (fun h r => ⟨rfl, rfl⟩) (all_cons (fun h r => ⟨rfl, rfl⟩) (all_nil))))
  (fun a => rfl)
  (all_nil)
  (fun k => by (repeat intro _); show _ = _; kernel_rfl)
noncomputable def S_laws_toItem (k : Nat) : Summ K TyK := sm cod (DItem) [.bo] [.g [.s, .b, .b, .i .i64]] [] (fun k v1 v2 v3 v4 => laws_toItem k (⟨(⟨v1, v2⟩ : DPart), v3, v4⟩ : DItem)) k [.g [.s, .b, .b, .i .i64]] [] (fun r => (r.Part.Text, r.Part.Last, r.Has, r.Since, ())) (fun v1 v2 v3 v4 => (⟨(⟨v1, v2⟩ : DPart), v3, v4⟩ : DItem)) true
theorem ok_laws_toItem (k : Nat) : SummOk Try.prog cod 142 (S_laws_toItem k) := sumOk codOk Try.f142 (fun k => lookT [(24, S_laws_toPart k)]) [] false [.cell 2 135] 0 [] mixed Try.func142 (by kernel_rfl) (by kernel_rfl) (by kernel_rfl) (by kernel_rfl)
  (fun k => Known.of tok eok codOk (all_cons (ok_laws_toPart k) (all_nil)))
  (fun k => QuietOk.of (all_cons (fun h r => ⟨rfl, rfl⟩) (all_nil)))
  (fun a => rfl)
  (all_nil)
  (fun k => by (repeat intro _); show _ = _; kernel_rfl)
noncomputable def S_laws_toItemS (k : Nat) : Summ K TyK := sm cod (List DItem) [.bo] [.c (.l true .item)] [] (laws_toItemS) k [.c (.o 0)] [.l .item] (fun r => ((), r, ())) (fun v1 => v1) false
noncomputable abbrev L_laws_toItemS : List (Nat × Cut K TyK (List DItem)) := [(3, ct cod [0, 3, 4] [.c (.l true .item), .c (.o 0), .c (.i .i64)] [.l .item] laws_toItemS_l3)]
theorem ok_laws_toItemS (k : Nat) : SummOk Try.prog cod 125 (S_laws_toItemS k) := sumOk codOk Try.f125 (fun k => lookT [(142, S_laws_toItem k)]) L_laws_toItemS false [.tmp 2] 0 [] mixed Try.func125 (by kernel_rfl) (by kernel_rfl) (by kernel_rfl) (by kernel_rfl)
  (fun k => Known.of tok eok codOk (all_cons (ok_laws_toItem k) (all_nil)))
  (fun k => QuietOk.of (all_cons (fun h r => ⟨rfl, rfl⟩) (all_nil)))
  (fun a => rfl)
  (all_cons (ctGood codOk (by kernel_rfl) (by (repeat intro _); show _ = _; kernel_rfl) (fun k => by (repeat intro _); show _ = _; kernel_rfl)) (all_nil))
  (fun k => by (repeat intro _); show _ = _; kernel_rfl)
noncomputable def S_laws_toSend (k : Nat) : Summ K TyK := sm cod (DSend) [.bo] [.g [.i .i64, .l true .item]] [] (fun k v1 v2 => laws_toSend k (⟨v1, v2⟩ : DSend)) k [.g [.i .i64, .o 0]] [.l .item] (fun r => (r.Base, (), r.Items, ())) (fun v1 v2 => (⟨v1, v2⟩ : DSend)) false
theorem ok_laws_toSend (k : Nat) : SummOk Try.prog cod 82 (S_laws_toSend k) := sumOk codOk Try.f82 (fun k => lookT [(125, S_laws_toItemS k)]) [] false [.cell 2 52] 0 [] mixed Try.func82 (by kernel_rfl) (by kernel_rfl) (by kernel_rfl) (by kernel_rfl)
  (fun k => Known.of tok eok codOk (all_cons (ok_laws_toItemS k) (all_nil)))
  (fun k => QuietOk.of (all_cons (fun h r => by cases h) (all_nil)))
  (fun a => rfl)
  (all_nil)
  (fun k => by (repeat intro _); show _ = _; kernel_rfl)
noncomputable def S_laws_toEnd (k : Nat) : Summ K TyK := sm cod (DEnd) [.bo] [.g [.i .i64, .b, .i .i64, .i .i64, .i .i64, .b, .i .i64, .l true .item, .i .i64, .l true .held, .s, .l true .str]] [] (fun k v1 v2 v3 v4 v5 v6 v7 v8 v9 v10 v11 v12 => laws_toEnd k (⟨v1, v2, v3, v4, v5, v6, (⟨v7, v8⟩ : DSend), (⟨v9, v10, v11, v12⟩ : DTake)⟩ : DEnd)) k [.g [.i .i64, .b, .i .i64, .i .i64, .i .i64, .b, .i .i64, .o 0, .i .i64, .o 1, .s, .o 2]] [.l .item, .l .held, .l .str] (fun r => (r.Number, r.Up, r.Life, r.Peer, r.Since, r.Owes, r.Send.Base, (), r.Take.Next, (), r.Take.Open, (), r.Send.Items, r.Take.Held, r.Take.Ready, ())) (fun v1 v2 v3 v4 v5 v6 v7 v8 v9 v10 v11 v12 => (⟨v1, v2, v3, v4, v5, v6, (⟨v7, v10⟩ : DSend), (⟨v8, v11, v9, v12⟩ : DTake)⟩ : DEnd)) false
theorem ok_laws_toEnd (k : Nat) : SummOk Try.prog cod 28 (S_laws_toEnd k) := sumOk codOk Try.f28 (fun k => lookT [(82, S_laws_toSend k), (17, S_laws_toTake k)]) [] false [.cell 2 54] 0 [] mixed Try.func28 (by kernel_rfl) (by kernel_rfl) (by kernel_rfl) (by kernel_rfl)
  (fun k => Known.of tok eok codOk (all_cons (ok_laws_toSend k) (all_cons (ok_laws_toTake k) (all_nil))))
  (fun k => QuietOk.of (all_cons (fun h r => by cases h) (all_cons (fun h r => by cases h) (all_nil))))
  (fun a => rfl)
  (all_nil)
  (fun k => by (repeat intro _); show _ = _; kernel_rfl)
noncomputable def S_spec_ValidSend (k : Nat) : Summ K TyK := sm cod (Bool) [.bo] [.g [.i .i64, .l true .item]] [] (fun k v1 v2 => spec_ValidSend k (⟨v1, v2⟩ : DSend)) k [.c (.b)] [] (fun r => (r, ())) (fun v1 => v1) true
noncomputable abbrev L_spec_ValidSend : List (Nat × Cut K TyK (Bool)) := [(4, ct cod [1, 3] [.c (.r 0 0), .c (.i .i64)] [.x [.i .i64, .l true .item]] spec_ValidSend_l4)]
theorem ok_spec_ValidSend (k : Nat) : SummOk Try.prog cod 79 (S_spec_ValidSend k) := sumOk codOk Try.f79 (fun k => lookT [(78, S_spec_l1In k)]) L_spec_ValidSend false [.tmp 2] 0 [] mixed Try.func79 (by kernel_rfl) (by kernel_rfl) (by kernel_rfl) (by kernel_rfl)
  (fun k => Known.of tok eok codOk (all_cons (ok_spec_l1In k) (all_nil)))
  (fun k => QuietOk.of (all_cons (fun h r => ⟨rfl, rfl⟩) (all_nil)))
  (fun a => rfl)
  (all_cons (ctGood codOk (by kernel_rfl) (by (repeat intro _); show _ = _; kernel_rfl) (fun k => by (repeat intro _); show _ = _; kernel_rfl)) (all_nil))
  (fun k => by (repeat intro _); show _ = _; kernel_rfl)
noncomputable def S_spec_l6NoSend (k : Nat) : Summ K TyK := sm cod (Bool) [.bo] [.g [.i .i64, .l true .item]] [] (fun k v1 v2 => spec_l6NoSend k (⟨v1, v2⟩ : DSend)) k [.c (.b)] [] (fun r => (r, ())) (fun v1 => v1) true
theorem ok_spec_l6NoSend (k : Nat) : SummOk Try.prog cod 80 (S_spec_l6NoSend k) := sumOk codOk Try.f80 (fun k => lookT []) [] false [.tmp 2] 0 [] mixed Try.func80 (by kernel_rfl) (by kernel_rfl) (by kernel_rfl) (by kernel_rfl)
  (fun k => Known.of tok eok codOk (all_nil))
  (fun k => QuietOk.of (all_nil))
  (fun a => rfl)
  (all_nil)
  (fun k => by (repeat intro _); show _ = _; kernel_rfl)
noncomputable def S_spec_l6NoTake (k : Nat) : Summ K TyK := sm cod (Bool) [.bo] [.g [.i .i64, .l true .held, .s, .l true .str]] [] (fun k v1 v2 v3 v4 => spec_l6NoTake k (⟨v1, v2, v3, v4⟩ : DTake)) k [.c (.b)] [] (fun r => (r, ())) (fun v1 => v1) true
theorem ok_spec_l6NoTake (k : Nat) : SummOk Try.prog cod 81 (S_spec_l6NoTake k) := sumOk codOk Try.f81 (fun k => lookT []) [] false [.tmp 2] 0 [] mixed Try.func81 (by kernel_rfl) (by kernel_rfl) (by kernel_rfl) (by kernel_rfl)
  (fun k => Known.of tok eok codOk (all_nil))
  (fun k => QuietOk.of (all_nil))
  (fun a => rfl)
  (all_nil)
  (fun k => by (repeat intro _); show _ = _; kernel_rfl)
noncomputable def S_spec_ValidEnd (k : Nat) : Summ K TyK := sm cod (Bool) [.bo] [.g [.i .i64, .b, .i .i64, .i .i64, .i .i64, .b, .i .i64, .l true .item, .i .i64, .l true .held, .s, .l true .str]] [] (fun k v1 v2 v3 v4 v5 v6 v7 v8 v9 v10 v11 v12 => spec_ValidEnd k (⟨v1, v2, v3, v4, v5, v6, (⟨v7, v8⟩ : DSend), (⟨v9, v10, v11, v12⟩ : DTake)⟩ : DEnd)) k [.c (.b)] [] (fun r => (r, ())) (fun v1 => v1) true
theorem ok_spec_ValidEnd (k : Nat) : SummOk Try.prog cod 27 (S_spec_ValidEnd k) := sumOk codOk Try.f27 (fun k => lookT [(78, S_spec_l1In k), (79, S_spec_ValidSend k), (61, S_spec_ValidTake k), (80, S_spec_l6NoSend k), (81, S_spec_l6NoTake k)]) [] false [.tmp 2] 0 [] mixed Try.func27 (by kernel_rfl) (by kernel_rfl) (by kernel_rfl) (by kernel_rfl)
  (fun k => Known.of tok eok codOk (all_cons (ok_spec_l1In k) (all_cons (ok_spec_ValidSend k) (all_cons (ok_spec_ValidTake k) (all_cons (ok_spec_l6NoSend k) (all_cons (ok_spec_l6NoTake k) (all_nil)))))))
  (fun k => QuietOk.of (all_cons (fun h r => ⟨rfl, rfl⟩) (all_cons (fun h r => ⟨rfl, rfl⟩) (all_cons (fun h r => ⟨rfl, rfl⟩) (all_cons (fun h r => ⟨rfl, rfl⟩) (all_cons (fun h r => ⟨rfl, rfl⟩) (all_nil)))))))
  (fun a => rfl)
  (all_nil)
  (fun k => by (repeat intro _); show _ = _; kernel_rfl)
noncomputable def S_impl_ValidSend (k : Nat) : Summ K TyK := sm cod (Bool) [.bo] [.g [.i .i64, .l true .item]] [] (fun k v1 v2 => impl_ValidSend k (⟨v1, v2⟩ : DSend)) k [.c (.b)] [] (fun r => (r, ())) (fun v1 => v1) true
noncomputable abbrev L_impl_ValidSend : List (Nat × Cut K TyK (Bool)) := [(4, ct cod [25, 26, 27] [.c (.l true .item), .c (.i .i64), .c (.i .i64)] [] impl_ValidSend_l4)]
theorem ok_impl_ValidSend (k : Nat) : SummOk Try.prog cod 83 (S_impl_ValidSend k) := sumOk codOk Try.f83 (fun k => lookT [(76, S_impl_in k)]) L_impl_ValidSend false [.tmp 2] 0 [] mixed Try.func83 (by kernel_rfl) (by kernel_rfl) (by kernel_rfl) (by kernel_rfl)
  (fun k => Known.of tok eok codOk (all_cons (ok_impl_in k) (all_nil)))
  (fun k => QuietOk.of (all_cons (fun h r => ⟨rfl, rfl⟩) (all_nil)))
  (fun a => rfl)
  (all_cons (ctGood codOk (by kernel_rfl) (by (repeat intro _); show _ = _; kernel_rfl) (fun k => by (repeat intro _); show _ = _; kernel_rfl)) (all_nil))
  (fun k => by (repeat intro _); show _ = _; kernel_rfl)
noncomputable def S_impl_noSend (k : Nat) : Summ K TyK := sm cod (Bool) [.bo] [.g [.i .i64, .l true .item]] [] (fun k v1 v2 => impl_noSend k (⟨v1, v2⟩ : DSend)) k [.c (.b)] [] (fun r => (r, ())) (fun v1 => v1) true
theorem ok_impl_noSend (k : Nat) : SummOk Try.prog cod 84 (S_impl_noSend k) := sumOk codOk Try.f84 (fun k => lookT []) [] false [.tmp 2] 0 [] mixed Try.func84 (by kernel_rfl) (by kernel_rfl) (by kernel_rfl) (by kernel_rfl)
  (fun k => Known.of tok eok codOk (all_nil))
  (fun k => QuietOk.of (all_nil))
  (fun a => rfl)
  (all_nil)
  (fun k => by (repeat intro _); show _ = _; kernel_rfl)
noncomputable def S_impl_noTake (k : Nat) : Summ K TyK := sm cod (Bool) [.bo] [.g [.i .i64, .l true .held, .s, .l true .str]] [] (fun k v1 v2 v3 v4 => impl_noTake k (⟨v1, v2, v3, v4⟩ : DTake)) k [.c (.b)] [] (fun r => (r, ())) (fun v1 => v1) true
theorem ok_impl_noTake (k : Nat) : SummOk Try.prog cod 85 (S_impl_noTake k) := sumOk codOk Try.f85 (fun k => lookT []) [] false [.tmp 2] 0 [] mixed Try.func85 (by kernel_rfl) (by kernel_rfl) (by kernel_rfl) (by kernel_rfl)
  (fun k => Known.of tok eok codOk (all_nil))
  (fun k => QuietOk.of (all_nil))
  (fun a => rfl)
  (all_nil)
  (fun k => by (repeat intro _); show _ = _; kernel_rfl)
noncomputable def S_impl_ValidEnd (k : Nat) : Summ K TyK := sm cod (Bool) [.bo] [.g [.i .i64, .b, .i .i64, .i .i64, .i .i64, .b, .i .i64, .l true .item, .i .i64, .l true .held, .s, .l true .str]] [] (fun k v1 v2 v3 v4 v5 v6 v7 v8 v9 v10 v11 v12 => impl_ValidEnd k (⟨v1, v2, v3, v4, v5, v6, (⟨v7, v8⟩ : DSend), (⟨v9, v10, v11, v12⟩ : DTake)⟩ : DEnd)) k [.c (.b)] [] (fun r => (r, ())) (fun v1 => v1) true
theorem ok_impl_ValidEnd (k : Nat) : SummOk Try.prog cod 29 (S_impl_ValidEnd k) := sumOk codOk Try.f29 (fun k => lookT [(76, S_impl_in k), (83, S_impl_ValidSend k), (66, S_impl_ValidTake k), (84, S_impl_noSend k), (85, S_impl_noTake k)]) [] false [.tmp 2] 0 [] mixed Try.func29 (by kernel_rfl) (by kernel_rfl) (by kernel_rfl) (by kernel_rfl)
  (fun k => Known.of tok eok codOk (all_cons (ok_impl_in k) (all_cons (ok_impl_ValidSend k) (all_cons (ok_impl_ValidTake k) (all_cons (ok_impl_noSend k) (all_cons (ok_impl_noTake k) (all_nil)))))))
  (fun k => QuietOk.of (all_cons (fun h r => ⟨rfl, rfl⟩) (all_cons (fun h r => ⟨rfl, rfl⟩) (all_cons (fun h r => ⟨rfl, rfl⟩) (all_cons (fun h r => ⟨rfl, rfl⟩) (all_cons (fun h r => ⟨rfl, rfl⟩) (all_nil)))))))
  (fun a => rfl)
  (all_nil)
  (fun k => by (repeat intro _); show _ = _; kernel_rfl)
noncomputable def S_laws_eqItem (k : Nat) : Summ K TyK := sm cod (Bool) [.bo, .bo] [.g [.s, .b, .b, .i .i64], .g [.s, .b, .b, .i .i64]] [] (fun k v1 v2 v3 v4 v5 v6 v7 v8 => laws_eqItem k (⟨(⟨v1, v2⟩ : DPart), v3, v4⟩ : DItem) (⟨(⟨v5, v6⟩ : DPart), v7, v8⟩ : DItem)) k [.c (.b)] [] (fun r => (r, ())) (fun v1 => v1) true
theorem ok_laws_eqItem (k : Nat) : SummOk Try.prog cod 143 (S_laws_eqItem k) := sumOk codOk Try.f143 (fun k => lookT [(140, S_laws_eqPart k)]) [] false [.tmp 4] 0 [] mixed Try.func143 (by kernel_rfl) (by kernel_rfl) (by kernel_rfl) (by kernel_rfl)
  (fun k => Known.of tok eok codOk (all_cons (ok_laws_eqPart k) (all_nil)))
  (fun k => QuietOk.of (all_cons (fun h r => ⟨rfl, rfl⟩) (all_nil)))
  (fun a => rfl)
  (all_nil)
  (fun k => by (repeat intro _); show _ = _; kernel_rfl)
noncomputable def S_laws_eqItemS (k : Nat) : Summ K TyK := sm cod (Bool) [.bo, .bo] [.c (.l true .item), .c (.l true .item)] [] (laws_eqItemS) k [.c (.b)] [] (fun r => (r, ())) (fun v1 => v1) true
noncomputable abbrev L_laws_eqItemS : List (Nat × Cut K TyK (Bool)) := [(4, ct cod [0, 1, 5] [.c (.l true .item), .c (.l true .item), .c (.i .i64)] [] laws_eqItemS_l4)]
theorem ok_laws_eqItemS (k : Nat) : SummOk Try.prog cod 126 (S_laws_eqItemS k) := sumOk codOk Try.f126 (fun k => lookT [(143, S_laws_eqItem k)]) L_laws_eqItemS false [.tmp 4] 0 [] mixed Try.func126 (by kernel_rfl) (by kernel_rfl) (by kernel_rfl) (by kernel_rfl)
  (fun k => Known.of tok eok codOk (all_cons (ok_laws_eqItem k) (all_nil)))
  (fun k => QuietOk.of (all_cons (fun h r => ⟨rfl, rfl⟩) (all_nil)))
  (fun a => rfl)
  (all_cons (ctGood codOk (by kernel_rfl) (by (repeat intro _); show _ = _; kernel_rfl) (fun k => by (repeat intro _); show _ = _; kernel_rfl)) (all_nil))
  (fun k => by (repeat intro _); show _ = _; kernel_rfl)
noncomputable def S_laws_eqSend (k : Nat) : Summ K TyK := sm cod (Bool) [.bo, .bo] [.g [.i .i64, .l true .item], .g [.i .i64, .l true .item]] [] (fun k v1 v2 v3 v4 => laws_eqSend k (⟨v1, v2⟩ : DSend) (⟨v3, v4⟩ : DSend)) k [.c (.b)] [] (fun r => (r, ())) (fun v1 => v1) true
theorem ok_laws_eqSend (k : Nat) : SummOk Try.prog cod 86 (S_laws_eqSend k) := sumOk codOk Try.f86 (fun k => lookT [(126, S_laws_eqItemS k)]) [] false [.tmp 4] 0 [] mixed Try.func86 (by kernel_rfl) (by kernel_rfl) (by kernel_rfl) (by kernel_rfl)
  (fun k => Known.of tok eok codOk (all_cons (ok_laws_eqItemS k) (all_nil)))
  (fun k => QuietOk.of (all_cons (fun h r => ⟨rfl, rfl⟩) (all_nil)))
  (fun a => rfl)
  (all_nil)
  (fun k => by (repeat intro _); show _ = _; kernel_rfl)
noncomputable def S_laws_eqEnd (k : Nat) : Summ K TyK := sm cod (Bool) [.bo, .bo] [.g [.i .i64, .b, .i .i64, .i .i64, .i .i64, .b, .i .i64, .l true .item, .i .i64, .l true .held, .s, .l true .str], .g [.i .i64, .b, .i .i64, .i .i64, .i .i64, .b, .i .i64, .l true .item, .i .i64, .l true .held, .s, .l true .str]] [] (fun k v1 v2 v3 v4 v5 v6 v7 v8 v9 v10 v11 v12 v13 v14 v15 v16 v17 v18 v19 v20 v21 v22 v23 v24 => laws_eqEnd k (⟨v1, v2, v3, v4, v5, v6, (⟨v7, v8⟩ : DSend), (⟨v9, v10, v11, v12⟩ : DTake)⟩ : DEnd) (⟨v13, v14, v15, v16, v17, v18, (⟨v19, v20⟩ : DSend), (⟨v21, v22, v23, v24⟩ : DTake)⟩ : DEnd)) k [.c (.b)] [] (fun r => (r, ())) (fun v1 => v1) true
theorem ok_laws_eqEnd (k : Nat) : SummOk Try.prog cod 30 (S_laws_eqEnd k) := sumOk codOk Try.f30 (fun k => lookT [(86, S_laws_eqSend k), (19, S_laws_eqTake k)]) [] false [.tmp 4] 0 [] mixed Try.func30 (by kernel_rfl) (by kernel_rfl) (by kernel_rfl) (by kernel_rfl)
  (fun k => Known.of tok eok codOk (all_cons (ok_laws_eqSend k) (all_cons (ok_laws_eqTake k) (all_nil))))
  (fun k => QuietOk.of (all_cons (fun h r => ⟨rfl, rfl⟩) (all_cons (fun h r => ⟨rfl, rfl⟩) (all_nil))))
  (fun a => rfl)
  (all_nil)
  (fun k => by (repeat intro _); show _ = _; kernel_rfl)
noncomputable def S_laws_eqEndS (k : Nat) : Summ K TyK := sm cod (Bool) [.bo, .bo] [.c (.l true .end), .c (.l true .end)] [] (laws_eqEndS) k [.c (.b)] [] (fun r => (r, ())) (fun v1 => v1) true
noncomputable abbrev L_laws_eqEndS : List (Nat × Cut K TyK (Bool)) := [(4, ct cod [0, 1, 5] [.c (.l true .end), .c (.l true .end), .c (.i .i64)] [] laws_eqEndS_l4)]
theorem ok_laws_eqEndS (k : Nat) : SummOk Try.prog cod 89 (S_laws_eqEndS k) := sumOk codOk Try.f89 (fun k => lookT [(30, S_laws_eqEnd k)]) L_laws_eqEndS false [.tmp 4] 0 [] mixed Try.func89 (by kernel_rfl) (by kernel_rfl) (by kernel_rfl) (by kernel_rfl)
  (fun k => Known.of tok eok codOk (all_cons (ok_laws_eqEnd k) (all_nil)))
  (fun k => QuietOk.of (all_cons (fun h r => ⟨rfl, rfl⟩) (all_nil)))
  (fun a => rfl)
  (all_cons (ctGood codOk (by kernel_rfl) (by (repeat intro _); show _ = _; kernel_rfl) (fun k => by (repeat intro _); show _ = _; kernel_rfl)) (all_nil))
  (fun k => by (repeat intro _); show _ = _; kernel_rfl)
noncomputable def S_laws_eqParcel (k : Nat) : Summ K TyK := sm cod (Bool) [.bo, .bo] [.g [.i .i64, .s, .s], .g [.i .i64, .s, .s]] [] (fun k v1 v2 v3 v4 v5 v6 => laws_eqParcel k (⟨v1, v2, v3⟩ : DParcel) (⟨v4, v5, v6⟩ : DParcel)) k [.c (.b)] [] (fun r => (r, ())) (fun v1 => v1) true
theorem ok_laws_eqParcel (k : Nat) : SummOk Try.prog cod 127 (S_laws_eqParcel k) := sumOk codOk Try.f127 (fun k => lookT []) [] false [.tmp 4] 0 [] mixed Try.func127 (by kernel_rfl) (by kernel_rfl) (by kernel_rfl) (by kernel_rfl)
  (fun k => Known.of tok eok codOk (all_nil))
  (fun k => QuietOk.of (all_nil))
  (fun a => rfl)
  (all_nil)
  (fun k => by (repeat intro _); show _ = _; kernel_rfl)
noncomputable def S_laws_eqParcelS (k : Nat) : Summ K TyK := sm cod (Bool) [.bo, .bo] [.c (.l true .parcel), .c (.l true .parcel)] [] (laws_eqParcelS) k [.c (.b)] [] (fun r => (r, ())) (fun v1 => v1) true
noncomputable abbrev L_laws_eqParcelS : List (Nat × Cut K TyK (Bool)) := [(4, ct cod [0, 1, 5] [.c (.l true .parcel), .c (.l true .parcel), .c (.i .i64)] [] laws_eqParcelS_l4)]
theorem ok_laws_eqParcelS (k : Nat) : SummOk Try.prog cod 90 (S_laws_eqParcelS k) := sumOk codOk Try.f90 (fun k => lookT [(127, S_laws_eqParcel k)]) L_laws_eqParcelS false [.tmp 4] 0 [] mixed Try.func90 (by kernel_rfl) (by kernel_rfl) (by kernel_rfl) (by kernel_rfl)
  (fun k => Known.of tok eok codOk (all_cons (ok_laws_eqParcel k) (all_nil)))
  (fun k => QuietOk.of (all_cons (fun h r => ⟨rfl, rfl⟩) (all_nil)))
  (fun a => rfl)
  (all_cons (ctGood codOk (by kernel_rfl) (by (repeat intro _); show _ = _; kernel_rfl) (fun k => by (repeat intro _); show _ = _; kernel_rfl)) (all_nil))
  (fun k => by (repeat intro _); show _ = _; kernel_rfl)
noncomputable def S_laws_eqRecord (k : Nat) : Summ K TyK := sm cod (Bool) [.bo, .bo] [.g [.i .i64, .i .i64, .i .i64, .s], .g [.i .i64, .i .i64, .i .i64, .s]] [] (fun k v1 v2 v3 v4 v5 v6 v7 v8 => laws_eqRecord k (⟨v1, v2, v3, v4⟩ : DRecord) (⟨v5, v6, v7, v8⟩ : DRecord)) k [.c (.b)] [] (fun r => (r, ())) (fun v1 => v1) true
theorem ok_laws_eqRecord (k : Nat) : SummOk Try.prog cod 128 (S_laws_eqRecord k) := sumOk codOk Try.f128 (fun k => lookT []) [] false [.tmp 4] 0 [] mixed Try.func128 (by kernel_rfl) (by kernel_rfl) (by kernel_rfl) (by kernel_rfl)
  (fun k => Known.of tok eok codOk (all_nil))
  (fun k => QuietOk.of (all_nil))
  (fun a => rfl)
  (all_nil)
  (fun k => by (repeat intro _); show _ = _; kernel_rfl)
noncomputable def S_laws_eqRecordS (k : Nat) : Summ K TyK := sm cod (Bool) [.bo, .bo] [.c (.l true .record), .c (.l true .record)] [] (laws_eqRecordS) k [.c (.b)] [] (fun r => (r, ())) (fun v1 => v1) true
noncomputable abbrev L_laws_eqRecordS : List (Nat × Cut K TyK (Bool)) := [(4, ct cod [0, 1, 5] [.c (.l true .record), .c (.l true .record), .c (.i .i64)] [] laws_eqRecordS_l4)]
theorem ok_laws_eqRecordS (k : Nat) : SummOk Try.prog cod 91 (S_laws_eqRecordS k) := sumOk codOk Try.f91 (fun k => lookT [(128, S_laws_eqRecord k)]) L_laws_eqRecordS false [.tmp 4] 0 [] mixed Try.func91 (by kernel_rfl) (by kernel_rfl) (by kernel_rfl) (by kernel_rfl)
  (fun k => Known.of tok eok codOk (all_cons (ok_laws_eqRecord k) (all_nil)))
  (fun k => QuietOk.of (all_cons (fun h r => ⟨rfl, rfl⟩) (all_nil)))
  (fun a => rfl)
  (all_cons (ctGood codOk (by kernel_rfl) (by (repeat intro _); show _ = _; kernel_rfl) (fun k => by (repeat intro _); show _ = _; kernel_rfl)) (all_nil))
  (fun k => by (repeat intro _); show _ = _; kernel_rfl)
noncomputable def S_laws_eqWorld (k : Nat) : Summ K TyK := sm cod (Bool) [.bo, .bo] [.g [.s, .i .i64, .l true .end, .l true .parcel, .s, .l true .record, .l true .record], .g [.s, .i .i64, .l true .end, .l true .parcel, .s, .l true .record, .l true .record]] [] (fun k v1 v2 v3 v4 v5 v6 v7 v8 v9 v10 v11 v12 v13 v14 => laws_eqWorld k (⟨v1, v2, v3, v4, v5, v6, v7⟩ : DWorld) (⟨v8, v9, v10, v11, v12, v13, v14⟩ : DWorld)) k [.c (.b)] [] (fun r => (r, ())) (fun v1 => v1) true
theorem ok_laws_eqWorld (k : Nat) : SummOk Try.prog cod 33 (S_laws_eqWorld k) := sumOk codOk Try.f33 (fun k => lookT [(89, S_laws_eqEndS k), (90, S_laws_eqParcelS k), (91, S_laws_eqRecordS k)]) [] false [.tmp 4] 0 [] mixed Try.func33 (by kernel_rfl) (by kernel_rfl) (by kernel_rfl) (by kernel_rfl)
  (fun k => Known.of tok eok codOk (all_cons (ok_laws_eqEndS k) (all_cons (ok_laws_eqParcelS k) (all_cons (ok_laws_eqRecordS k) (all_nil)))))
  (fun k => QuietOk.of (all_cons (fun h r => ⟨rfl, rfl⟩) (all_cons (fun h r => ⟨rfl, rfl⟩) (all_cons (fun h r => ⟨rfl, rfl⟩) (all_nil)))))
  (fun a => rfl)
  (all_nil)
  (fun k => by (repeat intro _); show _ = _; kernel_rfl)
noncomputable def S_laws_szEndS (k : Nat) : Summ K TyK := sm cod (Int) [.bo, .bo] [.c (.l true .end), .c (.i .i64)] [] (laws_szEndS) k [.c (.i .i64)] [] (fun r => (r, ())) (fun v1 => v1) true
noncomputable abbrev L_laws_szEndS : List (Nat × Cut K TyK (Int)) := [(5, ct cod [0, 1, 5] [.c (.l true .end), .c (.i .i64), .c (.i .i64)] [] laws_szEndS_l5)]
theorem ok_laws_szEndS (k : Nat) : SummOk Try.prog cod 102 (S_laws_szEndS k) := sumOk codOk Try.f102 (fun k => lookT [(26, S_laws_szEnd k)]) L_laws_szEndS false [.tmp 4] 0 [] mixed Try.func102 (by kernel_rfl) (by kernel_rfl) (by kernel_rfl) (by kernel_rfl)
  (fun k => Known.of tok eok codOk (all_cons (ok_laws_szEnd k) (all_nil)))
  (fun k => QuietOk.of (all_cons (fun h r => ⟨rfl, rfl⟩) (all_nil)))
  (fun a => rfl)
  (all_cons (ctGood codOk (by kernel_rfl) (by (repeat intro _); show _ = _; kernel_rfl) (fun k => by (repeat intro _); show _ = _; kernel_rfl)) (all_nil))
  (fun k => by (repeat intro _); show _ = _; kernel_rfl)
noncomputable def S_laws_szParcel (k : Nat) : Summ K TyK := sm cod (Int) [.bo, .bo] [.g [.i .i64, .s, .s], .c (.i .i64)] [] (fun k v1 v2 v3 v4 => laws_szParcel k (⟨v1, v2, v3⟩ : DParcel) v4) k [.c (.i .i64)] [] (fun r => (r, ())) (fun v1 => v1) true
theorem ok_laws_szParcel (k : Nat) : SummOk Try.prog cod 133 (S_laws_szParcel k) := sumOk codOk Try.f133 (fun k => lookT []) [] false [.tmp 4] 0 [] mixed Try.func133 (by kernel_rfl) (by kernel_rfl) (by kernel_rfl) (by kernel_rfl)
  (fun k => Known.of tok eok codOk (all_nil))
  (fun k => QuietOk.of (all_nil))
  (fun a => rfl)
  (all_nil)
  (fun k => by (repeat intro _); show _ = _; kernel_rfl)
noncomputable def S_laws_szParcelS (k : Nat) : Summ K TyK := sm cod (Int) [.bo, .bo] [.c (.l true .parcel), .c (.i .i64)] [] (laws_szParcelS) k [.c (.i .i64)] [] (fun r => (r, ())) (fun v1 => v1) true
noncomputable abbrev L_laws_szParcelS : List (Nat × Cut K TyK (Int)) := [(5, ct cod [0, 1, 5] [.c (.l true .parcel), .c (.i .i64), .c (.i .i64)] [] laws_szParcelS_l5)]
theorem ok_laws_szParcelS (k : Nat) : SummOk Try.prog cod 103 (S_laws_szParcelS k) := sumOk codOk Try.f103 (fun k => lookT [(133, S_laws_szParcel k)]) L_laws_szParcelS false [.tmp 4] 0 [] mixed Try.func103 (by kernel_rfl) (by kernel_rfl) (by kernel_rfl) (by kernel_rfl)
  (fun k => Known.of tok eok codOk (all_cons (ok_laws_szParcel k) (all_nil)))
  (fun k => QuietOk.of (all_cons (fun h r => ⟨rfl, rfl⟩) (all_nil)))
  (fun a => rfl)
  (all_cons (ctGood codOk (by kernel_rfl) (by (repeat intro _); show _ = _; kernel_rfl) (fun k => by (repeat intro _); show _ = _; kernel_rfl)) (all_nil))
  (fun k => by (repeat intro _); show _ = _; kernel_rfl)
noncomputable def S_laws_szRecord (k : Nat) : Summ K TyK := sm cod (Int) [.bo, .bo] [.g [.i .i64, .i .i64, .i .i64, .s], .c (.i .i64)] [] (fun k v1 v2 v3 v4 v5 => laws_szRecord k (⟨v1, v2, v3, v4⟩ : DRecord) v5) k [.c (.i .i64)] [] (fun r => (r, ())) (fun v1 => v1) true
theorem ok_laws_szRecord (k : Nat) : SummOk Try.prog cod 134 (S_laws_szRecord k) := sumOk codOk Try.f134 (fun k => lookT []) [] false [.tmp 4] 0 [] mixed Try.func134 (by kernel_rfl) (by kernel_rfl) (by kernel_rfl) (by kernel_rfl)
  (fun k => Known.of tok eok codOk (all_nil))
  (fun k => QuietOk.of (all_nil))
  (fun a => rfl)
  (all_nil)
  (fun k => by (repeat intro _); show _ = _; kernel_rfl)
noncomputable def S_laws_szRecordS (k : Nat) : Summ K TyK := sm cod (Int) [.bo, .bo] [.c (.l true .record), .c (.i .i64)] [] (laws_szRecordS) k [.c (.i .i64)] [] (fun r => (r, ())) (fun v1 => v1) true
noncomputable abbrev L_laws_szRecordS : List (Nat × Cut K TyK (Int)) := [(5, ct cod [0, 1, 5] [.c (.l true .record), .c (.i .i64), .c (.i .i64)] [] laws_szRecordS_l5)]
theorem ok_laws_szRecordS (k : Nat) : SummOk Try.prog cod 104 (S_laws_szRecordS k) := sumOk codOk Try.f104 (fun k => lookT [(134, S_laws_szRecord k)]) L_laws_szRecordS false [.tmp 4] 0 [] mixed Try.func104 (by kernel_rfl) (by kernel_rfl) (by kernel_rfl) (by kernel_rfl)
  (fun k => Known.of tok eok codOk (all_cons (ok_laws_szRecord k) (all_nil)))
  (fun k => QuietOk.of (all_cons (fun h r => ⟨rfl, rfl⟩) (all_nil)))
  (fun a => rfl)
  (all_cons (ctGood codOk (by kernel_rfl) (by (repeat intro _); show _ = _; kernel_rfl) (fun k => by (repeat intro _); show _ = _; kernel_rfl)) (all_nil))
  (fun k => by (repeat intro _); show _ = _; kernel_rfl)
noncomputable def S_laws_szWorld (k : Nat) : Summ K TyK := sm cod (Int) [.bo, .bo] [.g [.s, .i .i64, .l true .end, .l true .parcel, .s, .l true .record, .l true .record], .c (.i .i64)] [] (fun k v1 v2 v3 v4 v5 v6 v7 v8 => laws_szWorld k (⟨v1, v2, v3, v4, v5, v6, v7⟩ : DWorld) v8) k [.c (.i .i64)] [] (fun r => (r, ())) (fun v1 => v1) true
theorem ok_laws_szWorld (k : Nat) : SummOk Try.prog cod 42 (S_laws_szWorld k) := sumOk codOk Try.f42 (fun k => lookT [(102, S_laws_szEndS k), (103, S_laws_szParcelS k), (104, S_laws_szRecordS k)]) [] false [.tmp 4] 0 [] mixed Try.func42 (by kernel_rfl) (by kernel_rfl) (by kernel_rfl) (by kernel_rfl)
  (fun k => Known.of tok eok codOk (all_cons (ok_laws_szEndS k) (all_cons (ok_laws_szParcelS k) (all_cons (ok_laws_szRecordS k) (all_nil)))))
  (fun k => QuietOk.of (all_cons (fun h r => ⟨rfl, rfl⟩) (all_cons (fun h r => ⟨rfl, rfl⟩) (all_cons (fun h r => ⟨rfl, rfl⟩) (all_nil)))))
  (fun a => rfl)
  (all_nil)
  (fun k => by (repeat intro _); show _ = _; kernel_rfl)
noncomputable def S_laws_toEndS (k : Nat) : Summ K TyK := sm cod (List DEnd) [.bo] [.c (.l true .end)] [] (laws_toEndS) k [.c (.o 0)] [.l .end] (fun r => ((), r, ())) (fun v1 => v1) false
noncomputable abbrev L_laws_toEndS : List (Nat × Cut K TyK (List DEnd)) := [(3, ct cod [0, 3, 4] [.c (.l true .end), .c (.o 0), .c (.i .i64)] [.l .end] laws_toEndS_l3)]
theorem ok_laws_toEndS (k : Nat) : SummOk Try.prog cod 106 (S_laws_toEndS k) := sumOk codOk Try.f106 (fun k => lookT [(28, S_laws_toEnd k)]) L_laws_toEndS false [.tmp 2] 0 [] mixed Try.func106 (by kernel_rfl) (by kernel_rfl) (by kernel_rfl) (by kernel_rfl)
  (fun k => Known.of tok eok codOk (all_cons (ok_laws_toEnd k) (all_nil)))
  (fun k => QuietOk.of (all_cons (fun h r => by cases h) (all_nil)))
  (fun a => rfl)
  (all_cons (ctGood codOk (by kernel_rfl) (by (repeat intro _); show _ = _; kernel_rfl) (fun k => by (repeat intro _); show _ = _; kernel_rfl)) (all_nil))
  (fun k => by (repeat intro _); show _ = _; kernel_rfl)
noncomputable def S_laws_toParcel (k : Nat) : Summ K TyK := sm cod (DParcel) [.bo] [.g [.i .i64, .s, .s]] [] (fun k v1 v2 v3 => laws_toParcel k (⟨v1, v2, v3⟩ : DParcel)) k [.g [.i .i64, .s, .s]] [] (fun r => (r.To, r.Sent, r.Bytes, ())) (fun v1 v2 v3 => (⟨v1, v2, v3⟩ : DParcel)) true
theorem ok_laws_toParcel (k : Nat) : SummOk Try.prog cod 135 (S_laws_toParcel k) := sumOk codOk Try.f135 (fun k => lookT []) [] false [.cell 2 115] 0 [] mixed Try.func135 (by kernel_rfl) (by kernel_rfl) (by kernel_rfl) (by kernel_rfl)
  (fun k => Known.of tok eok codOk (all_nil))
  (fun k => QuietOk.of (all_nil))
  (fun a => rfl)
  (all_nil)
  (fun k => by (repeat intro _); show _ = _; kernel_rfl)
noncomputable def S_laws_toParcelS (k : Nat) : Summ K TyK := sm cod (List DParcel) [.bo] [.c (.l true .parcel)] [] (laws_toParcelS) k [.c (.o 0)] [.l .parcel] (fun r => ((), r, ())) (fun v1 => v1) false
noncomputable abbrev L_laws_toParcelS : List (Nat × Cut K TyK (List DParcel)) := [(3, ct cod [0, 3, 4] [.c (.l true .parcel), .c (.o 0), .c (.i .i64)] [.l .parcel] laws_toParcelS_l3)]
theorem ok_laws_toParcelS (k : Nat) : SummOk Try.prog cod 107 (S_laws_toParcelS k) := sumOk codOk Try.f107 (fun k => lookT [(135, S_laws_toParcel k)]) L_laws_toParcelS false [.tmp 2] 0 [] mixed Try.func107 (by kernel_rfl) (by kernel_rfl) (by kernel_rfl) (by kernel_rfl)
  (fun k => Known.of tok eok codOk (all_cons (ok_laws_toParcel k) (all_nil)))
  (fun k => QuietOk.of (all_cons (fun h r => ⟨rfl, rfl⟩) (all_nil)))
  (fun a => rfl)
  (all_cons (ctGood codOk (by kernel_rfl) (by (repeat intro _); show _ = _; kernel_rfl) (fun k => by (repeat intro _); show _ = _; kernel_rfl)) (all_nil))
  (fun k => by (repeat intro _); show _ = _; kernel_rfl)
noncomputable def S_laws_toRecord (k : Nat) : Summ K TyK := sm cod (DRecord) [.bo] [.g [.i .i64, .i .i64, .i .i64, .s]] [] (fun k v1 v2 v3 v4 => laws_toRecord k (⟨v1, v2, v3, v4⟩ : DRecord)) k [.g [.i .i64, .i .i64, .i .i64, .s]] [] (fun r => (r.From, r.A, r.B, r.Text, ())) (fun v1 v2 v3 v4 => (⟨v1, v2, v3, v4⟩ : DRecord)) true
theorem ok_laws_toRecord (k : Nat) : SummOk Try.prog cod 136 (S_laws_toRecord k) := sumOk codOk Try.f136 (fun k => lookT []) [] false [.cell 2 122] 0 [] mixed Try.func136 (by kernel_rfl) (by kernel_rfl) (by kernel_rfl) (by kernel_rfl)
  (fun k => Known.of tok eok codOk (all_nil))
  (fun k => QuietOk.of (all_nil))
  (fun a => rfl)
  (all_nil)
  (fun k => by (repeat intro _); show _ = _; kernel_rfl)
noncomputable def S_laws_toRecordS (k : Nat) : Summ K TyK := sm cod (List DRecord) [.bo] [.c (.l true .record)] [] (laws_toRecordS) k [.c (.o 0)] [.l .record] (fun r => ((), r, ())) (fun v1 => v1) false
noncomputable abbrev L_laws_toRecordS : List (Nat × Cut K TyK (List DRecord)) := [(3, ct cod [0, 3, 4] [.c (.l true .record), .c (.o 0), .c (.i .i64)] [.l .record] laws_toRecordS_l3)]
theorem ok_laws_toRecordS (k : Nat) : SummOk Try.prog cod 108 (S_laws_toRecordS k) := sumOk codOk Try.f108 (fun k => lookT [(136, S_laws_toRecord k)]) L_laws_toRecordS false [.tmp 2] 0 [] mixed Try.func108 (by kernel_rfl) (by kernel_rfl) (by kernel_rfl) (by kernel_rfl)
  (fun k => Known.of tok eok codOk (all_cons (ok_laws_toRecord k) (all_nil)))
  (fun k => QuietOk.of (all_cons (fun h r => ⟨rfl, rfl⟩) (all_nil)))
  (fun a => rfl)
  (all_cons (ctGood codOk (by kernel_rfl) (by (repeat intro _); show _ = _; kernel_rfl) (fun k => by (repeat intro _); show _ = _; kernel_rfl)) (all_nil))
  (fun k => by (repeat intro _); show _ = _; kernel_rfl)
noncomputable def S_laws_toWorld (k : Nat) : Summ K TyK := sm cod (DWorld) [.bo] [.g [.s, .i .i64, .l true .end, .l true .parcel, .s, .l true .record, .l true .record]] [] (fun k v1 v2 v3 v4 v5 v6 v7 => laws_toWorld k (⟨v1, v2, v3, v4, v5, v6, v7⟩ : DWorld)) k [.g [.s, .i .i64, .o 0, .o 1, .s, .o 2, .o 3]] [.l .end, .l .parcel, .l .record, .l .record] (fun r => (r.Key, r.Width, (), (), r.Forged, (), (), r.Ends, r.Flight, r.Given, r.Taken, ())) (fun v1 v2 v3 v4 v5 v6 v7 => (⟨v1, v2, v4, v5, v3, v6, v7⟩ : DWorld)) false
theorem ok_laws_toWorld (k : Nat) : SummOk Try.prog cod 44 (S_laws_toWorld k) := sumOk codOk Try.f44 (fun k => lookT [(106, S_laws_toEndS k), (107, S_laws_toParcelS k), (108, S_laws_toRecordS k)]) [] false [.cell 2 62] 0 [] mixed Try.func44 (by kernel_rfl) (by kernel_rfl) (by kernel_rfl) (by kernel_rfl)
  (fun k => Known.of tok eok codOk (all_cons (ok_laws_toEndS k) (all_cons (ok_laws_toParcelS k) (all_cons (ok_laws_toRecordS k) (all_nil)))))
  (fun k => QuietOk.of (all_cons (fun h r => by cases h) (all_cons (fun h r => by cases h) (all_cons (fun h r => by cases h) (all_nil)))))
  (fun a => rfl)
  (all_nil)
  (fun k => by (repeat intro _); show _ = _; kernel_rfl)
noncomputable def S_spec_l7RecordsOk (k : Nat) : Summ K TyK := sm cod (Bool) [.bo] [.c (.l true .record)] [] (spec_l7RecordsOk) k [.c (.b)] [] (fun r => (r, ())) (fun v1 => v1) true
noncomputable abbrev L_spec_l7RecordsOk : List (Nat × Cut K TyK (Bool)) := [(2, ct cod [0, 3] [.c (.l true .record), .c (.i .i64)] [] spec_l7RecordsOk_l2)]
theorem ok_spec_l7RecordsOk (k : Nat) : SummOk Try.prog cod 105 (S_spec_l7RecordsOk k) := sumOk codOk Try.f105 (fun k => lookT [(78, S_spec_l1In k)]) L_spec_l7RecordsOk false [.tmp 2] 0 [] mixed Try.func105 (by kernel_rfl) (by kernel_rfl) (by kernel_rfl) (by kernel_rfl)
  (fun k => Known.of tok eok codOk (all_cons (ok_spec_l1In k) (all_nil)))
  (fun k => QuietOk.of (all_cons (fun h r => ⟨rfl, rfl⟩) (all_nil)))
  (fun a => rfl)
  (all_cons (ctGood codOk (by kernel_rfl) (by (repeat intro _); show _ = _; kernel_rfl) (fun k => by (repeat intro _); show _ = _; kernel_rfl)) (all_nil))
  (fun k => by (repeat intro _); show _ = _; kernel_rfl)
noncomputable def S_spec_ValidWorld (k : Nat) : Summ K TyK := sm cod (Bool) [.bo] [.g [.s, .i .i64, .l true .end, .l true .parcel, .s, .l true .record, .l true .record]] [] (fun k v1 v2 v3 v4 v5 v6 v7 => spec_ValidWorld k (⟨v1, v2, v3, v4, v5, v6, v7⟩ : DWorld)) k [.c (.b)] [] (fun r => (r, ())) (fun v1 => v1) true
noncomputable abbrev L_spec_ValidWorld : List (Nat × Cut K TyK (Bool)) := [(4, ct cod [1, 3] [.c (.r 0 0), .c (.i .i64)] [.x [.s, .i .i64, .l true .end, .l true .parcel, .s, .l true .record, .l true .record]] spec_ValidWorld_l4),
  (9, ct cod [1, 4] [.c (.r 0 0), .c (.i .i64)] [.x [.s, .i .i64, .l true .end, .l true .parcel, .s, .l true .record, .l true .record]] spec_ValidWorld_l9)]
theorem ok_spec_ValidWorld (k : Nat) : SummOk Try.prog cod 43 (S_spec_ValidWorld k) := sumOk codOk Try.f43 (fun k => lookT [(78, S_spec_l1In k), (27, S_spec_ValidEnd k), (105, S_spec_l7RecordsOk k)]) L_spec_ValidWorld false [.tmp 2] 0 [] mixed Try.func43 (by kernel_rfl) (by kernel_rfl) (by kernel_rfl) (by kernel_rfl)
  (fun k => Known.of tok eok codOk (all_cons (ok_spec_l1In k) (all_cons (ok_spec_ValidEnd k) (all_cons (ok_spec_l7RecordsOk k) (all_nil)))))
  (fun k => QuietOk.of (all_cons (fun h r => ⟨rfl, rfl⟩) (all_cons (fun h r => ⟨rfl, rfl⟩) (all_cons (fun h r => ⟨rfl, rfl⟩) (all_nil)))))
  (fun a => rfl)
  (all_cons (ctGood codOk (by kernel_rfl) (by (repeat intro _); show _ = _; kernel_rfl) (fun k => by (repeat intro _); show _ = _; kernel_rfl)) (all_cons (ctGood codOk (by kernel_rfl) (by (repeat intro _); show _ = _; kernel_rfl) (fun k => by (repeat intro _); show _ = _; kernel_rfl)) (all_nil)))
  (fun k => by (repeat intro _); show _ = _; kernel_rfl)
noncomputable def S_impl_ValidWorld (k : Nat) : Summ K TyK := sm cod (Bool) [.bo] [.g [.s, .i .i64, .l true .end, .l true .parcel, .s, .l true .record, .l true .record]] [] (fun k v1 v2 v3 v4 v5 v6 v7 => impl_ValidWorld k (⟨v1, v2, v3, v4, v5, v6, v7⟩ : DWorld)) k [.c (.b)] [] (fun r => (r, ())) (fun v1 => v1) true
noncomputable abbrev L_impl_ValidWorld : List (Nat × Cut K TyK (Bool)) := [(4, ct cod [1, 48, 49, 50] [.c (.r 0 0), .c (.l true .end), .c (.i .i64), .c (.i .i64)] [.x [.s, .i .i64, .l true .end, .l true .parcel, .s, .l true .record, .l true .record]] impl_ValidWorld_l4),
  (10, ct cod [1, 67, 68, 69] [.c (.r 0 0), .c (.l true .parcel), .c (.i .i64), .c (.i .i64)] [.x [.s, .i .i64, .l true .end, .l true .parcel, .s, .l true .record, .l true .record]] impl_ValidWorld_l10),
  (16, ct cod [98, 99, 100] [.c (.o 0), .c (.i .i64), .c (.i .i64)] [.l .lrecord] impl_ValidWorld_l16),
  (19, ct cod [98, 99, 100, 104, 105, 106] [.c (.o 0), .c (.i .i64), .c (.i .i64), .c (.l true .record), .c (.i .i64), .c (.i .i64)] [.l .lrecord] impl_ValidWorld_l19)]
theorem ok_impl_ValidWorld (k : Nat) : SummOk Try.prog cod 45 (S_impl_ValidWorld k) := sumOk codOk Try.f45 (fun k => lookT [(29, S_impl_ValidEnd k), (76, S_impl_in k)]) L_impl_ValidWorld false [.tmp 2] 0 [] mixed Try.func45 (by kernel_rfl) (by kernel_rfl) (by kernel_rfl) (by kernel_rfl)
  (fun k => Known.of tok eok codOk (all_cons (ok_impl_ValidEnd k) (all_cons (ok_impl_in k) (all_nil))))
  (fun k => QuietOk.of (all_cons (fun h r => ⟨rfl, rfl⟩) (all_cons (fun h r => ⟨rfl, rfl⟩) (all_nil))))
  (fun a => rfl)
  (all_cons (ctGood codOk (by kernel_rfl) (by (repeat intro _); show _ = _; kernel_rfl) (fun k => by (repeat intro _); show _ = _; kernel_rfl)) (all_cons (ctGood codOk (by kernel_rfl) (by (repeat intro _); show _ = _; kernel_rfl) (fun k => by (repeat intro _); show _ = _; kernel_rfl)) (all_cons (ctGood codOk (by kernel_rfl) (by (repeat intro _); show _ = _; kernel_rfl) (fun k => by (repeat intro _); show _ = _; kernel_rfl)) (all_cons (ctGood codOk (by kernel_rfl) (by (repeat intro _); show _ = _; kernel_rfl) (fun k => by (repeat intro _); show _ = _; kernel_rfl)) (all_nil)))))
  (fun k => by (repeat intro _); show _ = _; kernel_rfl)
noncomputable def S_spec_Right (k : Nat) : Summ K TyK := sm cod (Bool) [.bo] [.g [.s, .i .i64, .l true .end, .l true .parcel, .s, .l true .record, .l true .record]] [] (fun k v1 v2 v3 v4 v5 v6 v7 => spec_Right k (⟨v1, v2, v3, v4, v5, v6, v7⟩ : DWorld)) k [.c (.b)] [] (fun r => (r, ())) (fun v1 => v1) true
noncomputable abbrev L_spec_Right : List (Nat × Cut K TyK (Bool)) := [(4, ct cod [1, 3] [.c (.r 0 0), .c (.i .i64)] [.x [.s, .i .i64, .l true .end, .l true .parcel, .s, .l true .record, .l true .record]] spec_Right_l4),
  (9, ct cod [1, 3, 4, 5, 6] [.c (.r 0 0), .c (.i .i64), .c (.r 1 0), .c (.i .i64), .c (.i .i64)] [.x [.s, .i .i64, .l true .end, .l true .parcel, .s, .l true .record, .l true .record], .x [.i .i64, .i .i64, .i .i64, .s]] spec_Right_l9),
  (10, ct cod [1, 3, 4, 5, 6] [.c (.r 0 0), .c (.i .i64), .c (.r 1 0), .c (.i .i64), .c (.i .i64)] [.x [.s, .i .i64, .l true .end, .l true .parcel, .s, .l true .record, .l true .record], .x [.i .i64, .i .i64, .i .i64, .s]] spec_Right_l10),
  (15, ct cod [1, 3, 4, 5, 7, 8] [.c (.r 0 0), .c (.i .i64), .c (.r 1 0), .c (.i .i64), .c (.b), .c (.i .i64)] [.x [.s, .i .i64, .l true .end, .l true .parcel, .s, .l true .record, .l true .record], .x [.i .i64, .i .i64, .i .i64, .s]] spec_Right_l15),
  (16, ct cod [1, 3, 4, 5, 7, 8] [.c (.r 0 0), .c (.i .i64), .c (.r 1 0), .c (.i .i64), .c (.b), .c (.i .i64)] [.x [.s, .i .i64, .l true .end, .l true .parcel, .s, .l true .record, .l true .record], .x [.i .i64, .i .i64, .i .i64, .s]] spec_Right_l16)]
theorem ok_spec_Right (k : Nat) : SummOk Try.prog cod 48 (S_spec_Right k) := sumOk codOk Try.f48 (fun k => lookT [(43, S_spec_ValidWorld k)]) L_spec_Right false [.tmp 2] 0 [] mixed Try.func48 (by kernel_rfl) (by kernel_rfl) (by kernel_rfl) (by kernel_rfl)
  (fun k => Known.of tok eok codOk (all_cons (ok_spec_ValidWorld k) (all_nil)))
  (fun k => QuietOk.of (all_cons (fun h r => ⟨rfl, rfl⟩) (all_nil)))
  (fun a => rfl)
  (all_cons (ctGood codOk (by kernel_rfl) (by (repeat intro _); show _ = _; kernel_rfl) (fun k => by (repeat intro _); show _ = _; kernel_rfl)) (all_cons (ctGood codOk (by kernel_rfl) (by (repeat intro _); show _ = _; kernel_rfl) (fun k => by (repeat intro _); show _ = _; kernel_rfl)) (all_cons (ctGood codOk (by kernel_rfl) (by (repeat intro _); show _ = _; kernel_rfl) (fun k => by (repeat intro _); show _ = _; kernel_rfl)) (all_cons (ctGood codOk (by kernel_rfl) (by (repeat intro _); show _ = _; kernel_rfl) (fun k => by (repeat intro _); show _ = _; kernel_rfl)) (all_cons (ctGood codOk (by kernel_rfl) (by (repeat intro _); show _ = _; kernel_rfl) (fun k => by (repeat intro _); show _ = _; kernel_rfl)) (all_nil))))))
  (fun k => by (repeat intro _); show _ = _; kernel_rfl)
noncomputable def S_impl_Right (k : Nat) : Summ K TyK := sm cod (Bool) [.bo] [.g [.s, .i .i64, .l true .end, .l true .parcel, .s, .l true .record, .l true .record]] [] (fun k v1 v2 v3 v4 v5 v6 v7 => impl_Right k (⟨v1, v2, v3, v4, v5, v6, v7⟩ : DWorld)) k [.c (.b)] [] (fun r => (r, ())) (fun v1 => v1) true
noncomputable abbrev L_impl_Right : List (Nat × Cut K TyK (Bool)) := [(5, ct cod [1, 3, 16, 17, 18] [.c (.r 0 0), .c (.m 1), .c (.l true .record), .c (.i .i64), .c (.i .i64)] [.x [.s, .i .i64, .l true .end, .l true .parcel, .s, .l true .record, .l true .record], .m .pair .lstr] impl_Right_l5),
  (12, ct cod [3, 7, 41, 42, 43] [.c (.m 0), .c (.m 1), .c (.l true .record), .c (.i .i64), .c (.i .i64)] [.m .pair .lstr, .m .pair .int] impl_Right_l12),
  (17, ct cod [3, 7, 10, 41, 42, 43] [.c (.m 0), .c (.m 1), .c (.r 2 0), .c (.l true .record), .c (.i .i64), .c (.i .i64)] [.m .pair .lstr, .m .pair .int, .x [.i .i64, .i .i64, .i .i64]] impl_Right_l17)]
theorem ok_impl_Right (k : Nat) : SummOk Try.prog cod 49 (S_impl_Right k) := sumOk codOk Try.f49 (fun k => lookT [(45, S_impl_ValidWorld k)]) L_impl_Right false [.tmp 2] 0 [] mixed Try.func49 (by kernel_rfl) (by kernel_rfl) (by kernel_rfl) (by kernel_rfl)
  (fun k => Known.of tok eok codOk (all_cons (ok_impl_ValidWorld k) (all_nil)))
  (fun k => QuietOk.of (all_cons (fun h r => ⟨rfl, rfl⟩) (all_nil)))
  (fun a => rfl)
  (all_cons (ctGood codOk (by kernel_rfl) (by (repeat intro _); show _ = _; kernel_rfl) (fun k => by (repeat intro _); show _ = _; kernel_rfl)) (all_cons (ctGood codOk (by kernel_rfl) (by (repeat intro _); show _ = _; kernel_rfl) (fun k => by (repeat intro _); show _ = _; kernel_rfl)) (all_cons (ctGood codOk (by kernel_rfl) (by (repeat intro _); show _ = _; kernel_rfl) (fun k => by (repeat intro _); show _ = _; kernel_rfl)) (all_nil))))
  (fun k => by (repeat intro _); show _ = _; kernel_rfl)
noncomputable def S_laws_FnExactRight (k : Nat) : Summ K TyK := sm cod (Bool) [.pe] [.g [.s, .i .i64, .l false .end, .l false .parcel, .s, .l false .record, .l false .record]] [] (fun k v1 v2 v3 v4 v5 v6 v7 => laws_FnExactRight k (⟨v1, v2, v3, v4, v5, v6, v7⟩ : DWorld)) k [.c (.b)] [] (fun r => (r, ())) (fun v1 => v1) true
theorem ok_laws_FnExactRight (k : Nat) : SummOk Try.prog cod 11 (S_laws_FnExactRight k) := sumOk codOk Try.f11 (fun k => lookT [(42, S_laws_szWorld k), (44, S_laws_toWorld k), (48, S_spec_Right k), (49, S_impl_Right k), (33, S_laws_eqWorld k)]) [] false [.tmp 2] 0 [] mixed Try.func11 (by kernel_rfl) (by kernel_rfl) (by kernel_rfl) (by kernel_rfl)
  (fun k => Known.of tok eok codOk (all_cons (ok_laws_szWorld k) (all_cons (ok_laws_toWorld k) (all_cons (ok_spec_Right k) (all_cons (ok_impl_Right k) (all_cons (ok_laws_eqWorld k) (all_nil)))))))
  (fun k => QuietOk.of (all_cons (fun h r => ⟨rfl, rfl⟩) (all_cons (fun h r => by cases h) (all_cons (fun h r => ⟨rfl, rfl⟩) (all_cons (fun h r => ⟨rfl, rfl⟩) (all_cons (fun h r => ⟨rfl, rfl⟩) (all_nil)))))))
  (fun a => rfl)
  (all_nil)
  (fun k => by (repeat intro _); show _ = _; kernel_rfl)
end Km.X
