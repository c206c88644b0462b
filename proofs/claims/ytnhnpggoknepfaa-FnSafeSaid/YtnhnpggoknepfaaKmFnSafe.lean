/- A part of the proof of FnSafe: each function does what its reading says. There is no condition. -/
import Derived.Test.YtnhnpggoknepfaaKmSeat
import Derived.Test.YtnhnpggoknepfaaKxDef2
namespace Km.X
open Go Km Go.Proofs
set_option linter.unusedVariables false
set_option maxRecDepth 100000
set_option maxHeartbeats 4000000
noncomputable def S_spec_l1In (k : Nat) : Summ K TyK := sm cod (Bool) [.bo, .bo, .bo] [.c (.i .i64), .c (.i .i64), .c (.i .i64)] [] (spec_l1In) k [.c (.b)] [] (fun r => (r, ())) (fun v1 => v1) true
theorem ok_spec_l1In (k : Nat) : SummOk Try.prog cod 89 (S_spec_l1In k) := sumOk codOk Try.f89 (fun k => lookT []) [] false [.tmp 6] 0 [] mixed Try.func89 (by kernel_rfl) (by kernel_rfl) (by kernel_rfl) (by kernel_rfl)
  (fun k => Known.of tok eok codOk (all_nil))
  (fun k => QuietOk.of (all_nil))
  (fun a => rfl)
  (all_nil)
  (fun k => by (repeat intro _); show _ = _; kernel_rfl)
noncomputable def S_spec_ValidSend (k : Nat) : Summ K TyK := sm cod (Bool) [.bo] [.g [.i .i64, .l true .item]] [] (fun k v1 v2 => spec_ValidSend k (⟨v1, v2⟩ : DSend)) k [.c (.b)] [] (fun r => (r, ())) (fun v1 => v1) true
noncomputable abbrev L_spec_ValidSend : List (Nat × Cut K TyK (Bool)) := [(4, ct cod [1, 3] [.c (.r 0 0), .c (.i .i64)] [.x [.i .i64, .l true .item]] spec_ValidSend_l4)]
theorem ok_spec_ValidSend (k : Nat) : SummOk Try.prog cod 105 (S_spec_ValidSend k) := sumOk codOk Try.f105 (fun k => lookT [(89, S_spec_l1In k)]) L_spec_ValidSend false [.tmp 2] 0 [] mixed Try.func105 (by kernel_rfl) (by kernel_rfl) (by kernel_rfl) (by kernel_rfl)
  (fun k => Known.of tok eok codOk (all_cons (ok_spec_l1In k) (all_nil)))
  (fun k => QuietOk.of (all_cons (fun h r => ⟨rfl, rfl⟩) (all_nil)))
  (fun a => rfl)
  (all_cons (ctGood codOk (by kernel_rfl) (by (repeat intro _); show _ = _; kernel_rfl) (fun k => by (repeat intro _); show _ = _; kernel_rfl)) (all_nil))
  (fun k => by (repeat intro _); show _ = _; kernel_rfl)
noncomputable def S_spec_l5Near (k : Nat) : Summ K TyK := sm cod (Bool) [.bo, .bo] [.g [.i .i64, .l true .held, .s, .l true .str], .c (.i .i64)] [] (fun k v1 v2 v3 v4 v5 => spec_l5Near k (⟨v1, v2, v3, v4⟩ : DTake) v5) k [.c (.b)] [] (fun r => (r, ())) (fun v1 => v1) true
theorem ok_spec_l5Near (k : Nat) : SummOk Try.prog cod 121 (S_spec_l5Near k) := sumOk codOk Try.f121 (fun k => lookT [(89, S_spec_l1In k)]) [] false [.tmp 4] 0 [] mixed Try.func121 (by kernel_rfl) (by kernel_rfl) (by kernel_rfl) (by kernel_rfl)
  (fun k => Known.of tok eok codOk (all_cons (ok_spec_l1In k) (all_nil)))
  (fun k => QuietOk.of (all_cons (fun h r => ⟨rfl, rfl⟩) (all_nil)))
  (fun a => rfl)
  (all_nil)
  (fun k => by (repeat intro _); show _ = _; kernel_rfl)
noncomputable def S_spec_l5Can (k : Nat) : Summ K TyK := sm cod (Bool) [.bo, .bo] [.g [.i .i64, .l true .held, .s, .l true .str], .g [.s, .b]] [] (fun k v1 v2 v3 v4 v5 v6 => spec_l5Can k (⟨v1, v2, v3, v4⟩ : DTake) (⟨v5, v6⟩ : DPart)) k [.c (.b)] [] (fun r => (r, ())) (fun v1 => v1) true
theorem ok_spec_l5Can (k : Nat) : SummOk Try.prog cod 157 (S_spec_l5Can k) := sumOk codOk Try.f157 (fun k => lookT []) [] false [.tmp 4] 0 [] mixed Try.func157 (by kernel_rfl) (by kernel_rfl) (by kernel_rfl) (by kernel_rfl)
  (fun k => Known.of tok eok codOk (all_nil))
  (fun k => QuietOk.of (all_nil))
  (fun a => rfl)
  (all_nil)
  (fun k => by (repeat intro _); show _ = _; kernel_rfl)
noncomputable def S_spec_ValidTake (k : Nat) : Summ K TyK := sm cod (Bool) [.bo] [.g [.i .i64, .l true .held, .s, .l true .str]] [] (fun k v1 v2 v3 v4 => spec_ValidTake k (⟨v1, v2, v3, v4⟩ : DTake)) k [.c (.b)] [] (fun r => (r, ())) (fun v1 => v1) true
noncomputable abbrev L_spec_ValidTake : List (Nat × Cut K TyK (Bool)) := [(4, ct cod [1, 3] [.c (.r 0 0), .c (.i .i64)] [.x [.i .i64, .l true .held, .s, .l true .str]] spec_ValidTake_l4),
  (9, ct cod [1, 4] [.c (.r 0 0), .c (.i .i64)] [.x [.i .i64, .l true .held, .s, .l true .str]] spec_ValidTake_l9)]
theorem ok_spec_ValidTake (k : Nat) : SummOk Try.prog cod 106 (S_spec_ValidTake k) := sumOk codOk Try.f106 (fun k => lookT [(89, S_spec_l1In k), (121, S_spec_l5Near k), (157, S_spec_l5Can k)]) L_spec_ValidTake false [.tmp 2] 0 [] mixed Try.func106 (by kernel_rfl) (by kernel_rfl) (by kernel_rfl) (by kernel_rfl)
  (fun k => Known.of tok eok codOk (all_cons (ok_spec_l1In k) (all_cons (ok_spec_l5Near k) (all_cons (ok_spec_l5Can k) (all_nil)))))
  (fun k => QuietOk.of (all_cons (fun h r => ⟨rfl, rfl⟩) (all_cons (fun h r => ⟨rfl, rfl⟩) (all_cons (fun h r => ⟨rfl, rfl⟩) (all_nil)))))
  (fun a => rfl)
  (all_cons (ctGood codOk (by kernel_rfl) (by (repeat intro _); show _ = _; kernel_rfl) (fun k => by (repeat intro _); show _ = _; kernel_rfl)) (all_cons (ctGood codOk (by kernel_rfl) (by (repeat intro _); show _ = _; kernel_rfl) (fun k => by (repeat intro _); show _ = _; kernel_rfl)) (all_nil)))
  (fun k => by (repeat intro _); show _ = _; kernel_rfl)
noncomputable def S_spec_l6NoSend (k : Nat) : Summ K TyK := sm cod (Bool) [.bo] [.g [.i .i64, .l true .item]] [] (fun k v1 v2 => spec_l6NoSend k (⟨v1, v2⟩ : DSend)) k [.c (.b)] [] (fun r => (r, ())) (fun v1 => v1) true
theorem ok_spec_l6NoSend (k : Nat) : SummOk Try.prog cod 107 (S_spec_l6NoSend k) := sumOk codOk Try.f107 (fun k => lookT []) [] false [.tmp 2] 0 [] mixed Try.func107 (by kernel_rfl) (by kernel_rfl) (by kernel_rfl) (by kernel_rfl)
  (fun k => Known.of tok eok codOk (all_nil))
  (fun k => QuietOk.of (all_nil))
  (fun a => rfl)
  (all_nil)
  (fun k => by (repeat intro _); show _ = _; kernel_rfl)
noncomputable def S_spec_l6NoTake (k : Nat) : Summ K TyK := sm cod (Bool) [.bo] [.g [.i .i64, .l true .held, .s, .l true .str]] [] (fun k v1 v2 v3 v4 => spec_l6NoTake k (⟨v1, v2, v3, v4⟩ : DTake)) k [.c (.b)] [] (fun r => (r, ())) (fun v1 => v1) true
theorem ok_spec_l6NoTake (k : Nat) : SummOk Try.prog cod 108 (S_spec_l6NoTake k) := sumOk codOk Try.f108 (fun k => lookT []) [] false [.tmp 2] 0 [] mixed Try.func108 (by kernel_rfl) (by kernel_rfl) (by kernel_rfl) (by kernel_rfl)
  (fun k => Known.of tok eok codOk (all_nil))
  (fun k => QuietOk.of (all_nil))
  (fun a => rfl)
  (all_nil)
  (fun k => by (repeat intro _); show _ = _; kernel_rfl)
noncomputable def S_spec_ValidEnd (k : Nat) : Summ K TyK := sm cod (Bool) [.bo] [.g [.i .i64, .b, .i .i64, .i .i64, .i .i64, .b, .i .i64, .l true .item, .i .i64, .l true .held, .s, .l true .str]] [] (fun k v1 v2 v3 v4 v5 v6 v7 v8 v9 v10 v11 v12 => spec_ValidEnd k (⟨v1, v2, v3, v4, v5, v6, (⟨v7, v8⟩ : DSend), (⟨v9, v10, v11, v12⟩ : DTake)⟩ : DEnd)) k [.c (.b)] [] (fun r => (r, ())) (fun v1 => v1) true
theorem ok_spec_ValidEnd (k : Nat) : SummOk Try.prog cod 45 (S_spec_ValidEnd k) := sumOk codOk Try.f45 (fun k => lookT [(89, S_spec_l1In k), (105, S_spec_ValidSend k), (106, S_spec_ValidTake k), (107, S_spec_l6NoSend k), (108, S_spec_l6NoTake k)]) [] false [.tmp 2] 0 [] mixed Try.func45 (by kernel_rfl) (by kernel_rfl) (by kernel_rfl) (by kernel_rfl)
  (fun k => Known.of tok eok codOk (all_cons (ok_spec_l1In k) (all_cons (ok_spec_ValidSend k) (all_cons (ok_spec_ValidTake k) (all_cons (ok_spec_l6NoSend k) (all_cons (ok_spec_l6NoTake k) (all_nil)))))))
  (fun k => QuietOk.of (all_cons (fun h r => ⟨rfl, rfl⟩) (all_cons (fun h r => ⟨rfl, rfl⟩) (all_cons (fun h r => ⟨rfl, rfl⟩) (all_cons (fun h r => ⟨rfl, rfl⟩) (all_cons (fun h r => ⟨rfl, rfl⟩) (all_nil)))))))
  (fun a => rfl)
  (all_nil)
  (fun k => by (repeat intro _); show _ = _; kernel_rfl)
noncomputable def S_spec_l4Copy (k : Nat) : Summ K TyK := sm cod (DSend) [.bo] [.g [.i .i64, .l true .item]] [] (fun k v1 v2 => spec_l4Copy k (⟨v1, v2⟩ : DSend)) k [.g [.i .i64, .o 0]] [.l .item] (fun r => (r.Base, (), r.Items, ())) (fun v1 v2 => (⟨v1, v2⟩ : DSend)) false
theorem ok_spec_l4Copy (k : Nat) : SummOk Try.prog cod 118 (S_spec_l4Copy k) := sumOk codOk Try.f118 (fun k => lookT []) [] false [.cell 2 37] 0 [] mixed Try.func118 (by kernel_rfl) (by kernel_rfl) (by kernel_rfl) (by kernel_rfl)
  (fun k => Known.of tok eok codOk (all_nil))
  (fun k => QuietOk.of (all_nil))
  (fun a => rfl)
  (all_nil)
  (fun k => by (repeat intro _); show _ = _; kernel_rfl)
noncomputable def S_spec_l5Copy (k : Nat) : Summ K TyK := sm cod (DTake) [.bo] [.g [.i .i64, .l true .held, .s, .l true .str]] [] (fun k v1 v2 v3 v4 => spec_l5Copy k (⟨v1, v2, v3, v4⟩ : DTake)) k [.g [.i .i64, .o 0, .s, .o 1]] [.l .held, .l .str] (fun r => (r.Next, (), r.Open, (), r.Held, r.Ready, ())) (fun v1 v2 v3 v4 => (⟨v1, v3, v2, v4⟩ : DTake)) false
theorem ok_spec_l5Copy (k : Nat) : SummOk Try.prog cod 119 (S_spec_l5Copy k) := sumOk codOk Try.f119 (fun k => lookT []) [] false [.cell 2 40] 0 [] mixed Try.func119 (by kernel_rfl) (by kernel_rfl) (by kernel_rfl) (by kernel_rfl)
  (fun k => Known.of tok eok codOk (all_nil))
  (fun k => QuietOk.of (all_nil))
  (fun a => rfl)
  (all_nil)
  (fun k => by (repeat intro _); show _ = _; kernel_rfl)
noncomputable def S_spec_l6Copy (k : Nat) : Summ K TyK := sm cod (DEnd) [.bo] [.g [.i .i64, .b, .i .i64, .i .i64, .i .i64, .b, .i .i64, .l true .item, .i .i64, .l true .held, .s, .l true .str]] [] (fun k v1 v2 v3 v4 v5 v6 v7 v8 v9 v10 v11 v12 => spec_l6Copy k (⟨v1, v2, v3, v4, v5, v6, (⟨v7, v8⟩ : DSend), (⟨v9, v10, v11, v12⟩ : DTake)⟩ : DEnd)) k [.g [.i .i64, .b, .i .i64, .i .i64, .i .i64, .b, .i .i64, .o 0, .i .i64, .o 1, .s, .o 2]] [.l .item, .l .held, .l .str] (fun r => (r.Number, r.Up, r.Life, r.Peer, r.Since, r.Owes, r.Send.Base, (), r.Take.Next, (), r.Take.Open, (), r.Send.Items, r.Take.Held, r.Take.Ready, ())) (fun v1 v2 v3 v4 v5 v6 v7 v8 v9 v10 v11 v12 => (⟨v1, v2, v3, v4, v5, v6, (⟨v7, v10⟩ : DSend), (⟨v8, v11, v9, v12⟩ : DTake)⟩ : DEnd)) false
theorem ok_spec_l6Copy (k : Nat) : SummOk Try.prog cod 52 (S_spec_l6Copy k) := sumOk codOk Try.f52 (fun k => lookT [(118, S_spec_l4Copy k), (119, S_spec_l5Copy k)]) [] false [.cell 2 42] 0 [] mixed Try.func52 (by kernel_rfl) (by kernel_rfl) (by kernel_rfl) (by kernel_rfl)
  (fun k => Known.of tok eok codOk (all_cons (ok_spec_l4Copy k) (all_cons (ok_spec_l5Copy k) (all_nil))))
  (fun k => QuietOk.of (all_cons (fun h r => by cases h) (all_cons (fun h r => by cases h) (all_nil))))
  (fun a => rfl)
  (all_nil)
  (fun k => by (repeat intro _); show _ = _; kernel_rfl)
noncomputable def S_spec_l2Ok (k : Nat) : Summ K TyK := sm cod (Bool) [.bo] [.g [.i .i64, .i .i64, .i .i64, .i .i64, .i .i64, .i .i64, .i .i64, .b, .s]] [] (fun k v1 v2 v3 v4 v5 v6 v7 v8 v9 => spec_l2Ok k (⟨v1, v2, v3, v4, v5, v6, v7, v8, v9⟩ : DPacket)) k [.c (.b)] [] (fun r => (r, ())) (fun v1 => v1) true
theorem ok_spec_l2Ok (k : Nat) : SummOk Try.prog cod 53 (S_spec_l2Ok k) := sumOk codOk Try.f53 (fun k => lookT [(89, S_spec_l1In k)]) [] false [.tmp 2] 0 [] mixed Try.func53 (by kernel_rfl) (by kernel_rfl) (by kernel_rfl) (by kernel_rfl)
  (fun k => Known.of tok eok codOk (all_cons (ok_spec_l1In k) (all_nil)))
  (fun k => QuietOk.of (all_cons (fun h r => ⟨rfl, rfl⟩) (all_nil)))
  (fun a => rfl)
  (all_nil)
  (fun k => by (repeat intro _); show _ = _; kernel_rfl)
noncomputable def S_spec_l4Front (k : Nat) : Summ K TyK := sm cod (Int) [.bo] [.g [.i .i64, .l true .item]] [] (fun k v1 v2 => spec_l4Front k (⟨v1, v2⟩ : DSend)) k [.c (.i .i64)] [] (fun r => (r, ())) (fun v1 => v1) true
noncomputable abbrev L_spec_l4Front : List (Nat × Cut K TyK (Int)) := [(2, ct cod [1, 3] [.c (.r 0 0), .c (.i .i64)] [.x [.i .i64, .l true .item]] spec_l4Front_l2)]
theorem ok_spec_l4Front (k : Nat) : SummOk Try.prog cod 120 (S_spec_l4Front k) := sumOk codOk Try.f120 (fun k => lookT []) L_spec_l4Front false [.tmp 2] 0 [] mixed Try.func120 (by kernel_rfl) (by kernel_rfl) (by kernel_rfl) (by kernel_rfl)
  (fun k => Known.of tok eok codOk (all_nil))
  (fun k => QuietOk.of (all_nil))
  (fun a => rfl)
  (all_cons (ctGood codOk (by kernel_rfl) (by (repeat intro _); show _ = _; kernel_rfl) (fun k => by (repeat intro _); show _ = _; kernel_rfl)) (all_nil))
  (fun k => by (repeat intro _); show _ = _; kernel_rfl)
noncomputable def S_spec_SendWord (k : Nat) : Summ K TyK := sm cod (DSend) [.bo, .bo, .bo] [.g [.i .i64, .l true .item], .c (.i .i64), .c (.i .i64)] [] (fun k v1 v2 v3 v4 => spec_SendWord k (⟨v1, v2⟩ : DSend) v3 v4) k [.g [.i .i64, .o 0]] [.l .item] (fun r => (r.Base, (), r.Items, ())) (fun v1 v2 => (⟨v1, v2⟩ : DSend)) false
noncomputable abbrev L_spec_SendWord : List (Nat × Cut K TyK (DSend)) := [(9, ct cod [2, 6, 7, 8] [.c (.i .i64), .c (.r 0 0), .c (.r 1 0), .c (.i .i64)] [.x [.i .i64, .o 2], .x [.i .i64, .o 3], .l .item, .l .item] spec_SendWord_l9),
  (13, ct cod [2, 6, 7, 8] [.c (.i .i64), .c (.r 0 0), .c (.r 1 0), .c (.i .i64)] [.x [.i .i64, .o 2], .x [.i .i64, .o 3], .l .item, .l .item] spec_SendWord_l13)]
theorem ok_spec_SendWord (k : Nat) : SummOk Try.prog cod 54 (S_spec_SendWord k) := sumOk codOk Try.f54 (fun k => lookT [(105, S_spec_ValidSend k), (118, S_spec_l4Copy k), (120, S_spec_l4Front k), (89, S_spec_l1In k)]) L_spec_SendWord false [.cell 6 37] 0 [] mixed Try.func54 (by kernel_rfl) (by kernel_rfl) (by kernel_rfl) (by kernel_rfl)
  (fun k => Known.of tok eok codOk (all_cons (ok_spec_ValidSend k) (all_cons (ok_spec_l4Copy k) (all_cons (ok_spec_l4Front k) (all_cons (ok_spec_l1In k) (all_nil))))))
  (fun k => QuietOk.of (all_cons (fun h r => ⟨rfl, rfl⟩) (all_cons (fun h r => by cases h) (all_cons (fun h r => ⟨rfl, rfl⟩) (all_cons (fun h r => ⟨rfl, rfl⟩) (all_nil))))))
  (fun a => rfl)
  (all_cons (ctGood codOk (by kernel_rfl) (by (repeat intro _); show _ = _; kernel_rfl) (fun k => by (repeat intro _); show _ = _; kernel_rfl)) (all_cons (ctGood codOk (by kernel_rfl) (by (repeat intro _); show _ = _; kernel_rfl) (fun k => by (repeat intro _); show _ = _; kernel_rfl)) (all_nil)))
  (fun k => by (repeat intro _); show _ = _; kernel_rfl)
noncomputable def S_spec_l5In (k : Nat) : Summ K TyK := sm cod (DTake) [.mv] [.g [.i .i64, .o 0, .s, .o 1]] [.l .held, .l .str] (fun k v1 v2 v3 v4 => spec_l5In k (⟨v1, v3, v2, v4⟩ : DTake)) k [.g [.i .i64, .o 2, .s, .o 3]] [.d, .d, .l .held, .l .str] (fun r => (r.Next, (), r.Open, (), r.Held, r.Ready, ())) (fun v1 v2 v3 v4 => (⟨v1, v3, v2, v4⟩ : DTake)) false
noncomputable abbrev L_spec_l5In : List (Nat × Cut K TyK (DTake)) := [(1, ct cod [1, 2] [.c (.r 2 0), .c (.r 3 0)] [.d, .d, .x [.i .i64, .o 4, .s, .o 5], .x [.i .i64, .o 6, .s, .o 7], .l .held, .l .str, .l .held, .l .str] spec_l5In_l1)]
theorem ok_spec_l5In (k : Nat) : SummOk Try.prog cod 122 (S_spec_l5In k) := sumOk codOk Try.f122 (fun k => lookT [(157, S_spec_l5Can k)]) L_spec_l5In false [.cell 2 40] 2 [true, true] mixed Try.func122 (by kernel_rfl) (by kernel_rfl) (by kernel_rfl) (by kernel_rfl)
  (fun k => Known.of tok eok codOk (all_cons (ok_spec_l5Can k) (all_nil)))
  (fun k => QuietOk.of (all_cons (fun h r => ⟨rfl, rfl⟩) (all_nil)))
  (fun a => rfl)
  (all_cons (ctGood codOk (by kernel_rfl) (by (repeat intro _); show _ = _; kernel_rfl) (fun k => by (repeat intro _); show _ = _; kernel_rfl)) (all_nil))
  (fun k => by (repeat intro _); show _ = _; kernel_rfl)
noncomputable def S_spec_TakePart (k : Nat) : Summ K TyK := sm cod (DTake) [.bo, .bo, .bo] [.g [.i .i64, .l true .held, .s, .l true .str], .c (.i .i64), .g [.s, .b]] [] (fun k v1 v2 v3 v4 v5 v6 v7 => spec_TakePart k (⟨v1, v2, v3, v4⟩ : DTake) v5 (⟨v6, v7⟩ : DPart)) k [.g [.i .i64, .o 0, .s, .o 1]] [.l .held, .l .str] (fun r => (r.Next, (), r.Open, (), r.Held, r.Ready, ())) (fun v1 v2 v3 v4 => (⟨v1, v3, v2, v4⟩ : DTake)) false
noncomputable abbrev L_spec_TakePart : List (Nat × Cut K TyK (DTake)) := [(9, ct cod [1, 3, 5, 6, 7, 8, 9, 10] [.c (.i .i64), .c (.r 0 0), .c (.r 1 0), .c (.r 2 0), .c (.r 3 0), .c (.o 4), .c (.b), .c (.i .i64)] [.x [.i .i64, .l true .held, .s, .l true .str], .x [.s, .b], .x [.i .i64, .o 5, .s, .o 6], .x [.i .i64, .o 7, .s, .o 8], .l .held, .l .held, .l .str, .l .held, .l .str] spec_TakePart_l9),
  (16, ct cod [1, 3, 5, 6, 7, 8, 9, 10] [.c (.i .i64), .c (.r 0 0), .c (.r 1 0), .c (.r 2 0), .c (.r 3 0), .c (.o 4), .c (.b), .c (.i .i64)] [.x [.i .i64, .l true .held, .s, .l true .str], .x [.s, .b], .x [.i .i64, .o 5, .s, .o 6], .x [.i .i64, .o 7, .s, .o 8], .l .held, .l .held, .l .str, .l .held, .l .str] spec_TakePart_l16),
  (19, ct cod [6, 7, 8] [.c (.r 0 0), .c (.r 1 0), .c (.o 2)] [.x [.i .i64, .o 3, .s, .o 4], .x [.i .i64, .o 5, .s, .o 6], .l .held, .l .held, .l .str, .l .held, .l .str] spec_TakePart_l19)]
theorem ok_spec_TakePart (k : Nat) : SummOk Try.prog cod 55 (S_spec_TakePart k) := sumOk codOk Try.f55 (fun k => lookT [(106, S_spec_ValidTake k), (119, S_spec_l5Copy k), (121, S_spec_l5Near k), (122, S_spec_l5In k)]) L_spec_TakePart false [.cell 6 40] 0 [] mixed Try.func55 (by kernel_rfl) (by kernel_rfl) (by kernel_rfl) (by kernel_rfl)
  (fun k => Known.of tok eok codOk (all_cons (ok_spec_ValidTake k) (all_cons (ok_spec_l5Copy k) (all_cons (ok_spec_l5Near k) (all_cons (ok_spec_l5In k) (all_nil))))))
  (fun k => QuietOk.of (all_cons (fun h r => ⟨rfl, rfl⟩) (all_cons (fun h r => by cases h) (all_cons (fun h r => ⟨rfl, rfl⟩) (all_cons (fun h r => by cases h) (all_nil))))))
  (fun a => rfl)
  (all_cons (ctGood codOk (by kernel_rfl) (by (repeat intro _); show _ = _; kernel_rfl) (fun k => by (repeat intro _); show _ = _; kernel_rfl)) (all_cons (ctGood codOk (by kernel_rfl) (by (repeat intro _); show _ = _; kernel_rfl) (fun k => by (repeat intro _); show _ = _; kernel_rfl)) (all_cons (ctGood codOk (by kernel_rfl) (by (repeat intro _); show _ = _; kernel_rfl) (fun k => by (repeat intro _); show _ = _; kernel_rfl)) (all_nil))))
  (fun k => by (repeat intro _); show _ = _; kernel_rfl)
noncomputable def S_spec_EndTake (k : Nat) : Summ K TyK := sm cod (DActed) [.bo, .bo] [.g [.i .i64, .b, .i .i64, .i .i64, .i .i64, .b, .i .i64, .l true .item, .i .i64, .l true .held, .s, .l true .str], .g [.i .i64, .i .i64, .i .i64, .i .i64, .i .i64, .i .i64, .i .i64, .b, .s]] [] (fun k v1 v2 v3 v4 v5 v6 v7 v8 v9 v10 v11 v12 v13 v14 v15 v16 v17 v18 v19 v20 v21 => spec_EndTake k (⟨v1, v2, v3, v4, v5, v6, (⟨v7, v8⟩ : DSend), (⟨v9, v10, v11, v12⟩ : DTake)⟩ : DEnd) (⟨v13, v14, v15, v16, v17, v18, v19, v20, v21⟩ : DPacket)) k [.g [.i .i64, .i .i64, .b, .i .i64, .i .i64, .i .i64, .b, .i .i64, .o 0, .i .i64, .o 1, .s, .o 2, .o 3, .s]] [.l .item, .l .held, .l .str, .l .packet] (fun r => (r.Code, r.End.Number, r.End.Up, r.End.Life, r.End.Peer, r.End.Since, r.End.Owes, r.End.Send.Base, (), r.End.Take.Next, (), r.End.Take.Open, (), (), r.Text, r.End.Send.Items, r.End.Take.Held, r.End.Take.Ready, r.Out, ())) (fun v1 v2 v3 v4 v5 v6 v7 v8 v9 v10 v11 v12 v13 v14 v15 => (⟨v1, (⟨v2, v3, v4, v5, v6, v7, (⟨v8, v12⟩ : DSend), (⟨v9, v13, v10, v14⟩ : DTake)⟩ : DEnd), v15, v11⟩ : DActed)) false
noncomputable abbrev L_spec_EndTake : List (Nat × Cut K TyK (DActed)) := [(11, ct cod [3, 4, 5] [.c (.r 0 0), .c (.r 1 0), .c (.r 2 0)] [.x [.i .i64, .i .i64, .i .i64, .i .i64, .i .i64, .i .i64, .i .i64, .b, .s], .x [.i .i64, .i .i64, .b, .i .i64, .i .i64, .i .i64, .b, .i .i64, .o 3, .i .i64, .o 4, .s, .o 5, .o 6, .s], .x [.i .i64, .b, .i .i64, .i .i64, .i .i64, .b, .i .i64, .o 7, .i .i64, .o 8, .s, .o 9], .l .item, .l .held, .l .str, .l .packet, .l .item, .l .held, .l .str] spec_EndTake_l11)]
theorem ok_spec_EndTake (k : Nat) : SummOk Try.prog cod 12 (S_spec_EndTake k) := sumOk codOk Try.f12 (fun k => lookT [(45, S_spec_ValidEnd k), (52, S_spec_l6Copy k), (53, S_spec_l2Ok k), (54, S_spec_SendWord k), (55, S_spec_TakePart k)]) L_spec_EndTake false [.cell 4 45] 0 [] mixed Try.func12 (by kernel_rfl) (by kernel_rfl) (by kernel_rfl) (by kernel_rfl)
  (fun k => Known.of tok eok codOk (all_cons (ok_spec_ValidEnd k) (all_cons (ok_spec_l6Copy k) (all_cons (ok_spec_l2Ok k) (all_cons (ok_spec_SendWord k) (all_cons (ok_spec_TakePart k) (all_nil)))))))
  (fun k => QuietOk.of (all_cons (fun h r => ⟨rfl, rfl⟩) (all_cons (fun h r => by cases h) (all_cons (fun h r => ⟨rfl, rfl⟩) (all_cons (fun h r => by cases h) (all_cons (fun h r => by cases h) (all_nil)))))))
  (fun a => rfl)
  (all_cons (ctGood codOk (by kernel_rfl) (by (repeat intro _); show _ = _; kernel_rfl) (fun k => by (repeat intro _); show _ = _; kernel_rfl)) (all_nil))
  (fun k => by (repeat intro _); show _ = _; kernel_rfl)
noncomputable def S_impl_in (k : Nat) : Summ K TyK := sm cod (Bool) [.bo, .bo, .bo] [.c (.i .i64), .c (.i .i64), .c (.i .i64)] [] (impl_in) k [.c (.b)] [] (fun r => (r, ())) (fun v1 => v1) true
theorem ok_impl_in (k : Nat) : SummOk Try.prog cod 75 (S_impl_in k) := sumOk codOk Try.f75 (fun k => lookT []) [] false [.tmp 6] 0 [] mixed Try.func75 (by kernel_rfl) (by kernel_rfl) (by kernel_rfl) (by kernel_rfl)
  (fun k => Known.of tok eok codOk (all_nil))
  (fun k => QuietOk.of (all_nil))
  (fun a => rfl)
  (all_nil)
  (fun k => by (repeat intro _); show _ = _; kernel_rfl)
noncomputable def S_impl_ValidSend (k : Nat) : Summ K TyK := sm cod (Bool) [.bo] [.g [.i .i64, .l true .item]] [] (fun k v1 v2 => impl_ValidSend k (⟨v1, v2⟩ : DSend)) k [.c (.b)] [] (fun r => (r, ())) (fun v1 => v1) true
noncomputable abbrev L_impl_ValidSend : List (Nat × Cut K TyK (Bool)) := [(4, ct cod [25, 26, 27] [.c (.l true .item), .c (.i .i64), .c (.i .i64)] [] impl_ValidSend_l4)]
theorem ok_impl_ValidSend (k : Nat) : SummOk Try.prog cod 109 (S_impl_ValidSend k) := sumOk codOk Try.f109 (fun k => lookT [(75, S_impl_in k)]) L_impl_ValidSend false [.tmp 2] 0 [] mixed Try.func109 (by kernel_rfl) (by kernel_rfl) (by kernel_rfl) (by kernel_rfl)
  (fun k => Known.of tok eok codOk (all_cons (ok_impl_in k) (all_nil)))
  (fun k => QuietOk.of (all_cons (fun h r => ⟨rfl, rfl⟩) (all_nil)))
  (fun a => rfl)
  (all_cons (ctGood codOk (by kernel_rfl) (by (repeat intro _); show _ = _; kernel_rfl) (fun k => by (repeat intro _); show _ = _; kernel_rfl)) (all_nil))
  (fun k => by (repeat intro _); show _ = _; kernel_rfl)
noncomputable def S_impl_goes (k : Nat) : Summ K TyK := sm cod (Bool) [.bo, .bo] [.g [.i .i64, .l true .held, .s, .l true .str], .g [.s, .b]] [] (fun k v1 v2 v3 v4 v5 v6 => impl_goes k (⟨v1, v2, v3, v4⟩ : DTake) (⟨v5, v6⟩ : DPart)) k [.c (.b)] [] (fun r => (r, ())) (fun v1 => v1) true
theorem ok_impl_goes (k : Nat) : SummOk Try.prog cod 158 (S_impl_goes k) := sumOk codOk Try.f158 (fun k => lookT []) [] false [.tmp 4] 0 [] mixed Try.func158 (by kernel_rfl) (by kernel_rfl) (by kernel_rfl) (by kernel_rfl)
  (fun k => Known.of tok eok codOk (all_nil))
  (fun k => QuietOk.of (all_nil))
  (fun a => rfl)
  (all_nil)
  (fun k => by (repeat intro _); show _ = _; kernel_rfl)
noncomputable def S_impl_ValidTake (k : Nat) : Summ K TyK := sm cod (Bool) [.bo] [.g [.i .i64, .l true .held, .s, .l true .str]] [] (fun k v1 v2 v3 v4 => impl_ValidTake k (⟨v1, v2, v3, v4⟩ : DTake)) k [.c (.b)] [] (fun r => (r, ())) (fun v1 => v1) true
noncomputable abbrev L_impl_ValidTake : List (Nat × Cut K TyK (Bool)) := [(4, ct cod [1, 30, 31, 32] [.c (.r 0 0), .c (.l true .held), .c (.i .i64), .c (.i .i64)] [.x [.i .i64, .l true .held, .s, .l true .str]] impl_ValidTake_l4),
  (12, ct cod [88, 89, 90] [.c (.l true .str), .c (.i .i64), .c (.i .i64)] [] impl_ValidTake_l12)]
theorem ok_impl_ValidTake (k : Nat) : SummOk Try.prog cod 110 (S_impl_ValidTake k) := sumOk codOk Try.f110 (fun k => lookT [(75, S_impl_in k), (158, S_impl_goes k)]) L_impl_ValidTake false [.tmp 2] 0 [] mixed Try.func110 (by kernel_rfl) (by kernel_rfl) (by kernel_rfl) (by kernel_rfl)
  (fun k => Known.of tok eok codOk (all_cons (ok_impl_in k) (all_cons (ok_impl_goes k) (all_nil))))
  (fun k => QuietOk.of (all_cons (fun h r => ⟨rfl, rfl⟩) (all_cons (fun h r => ⟨rfl, rfl⟩) (all_nil))))
  (fun a => rfl)
  (all_cons (ctGood codOk (by kernel_rfl) (by (repeat intro _); show _ = _; kernel_rfl) (fun k => by (repeat intro _); show _ = _; kernel_rfl)) (all_cons (ctGood codOk (by kernel_rfl) (by (repeat intro _); show _ = _; kernel_rfl) (fun k => by (repeat intro _); show _ = _; kernel_rfl)) (all_nil)))
  (fun k => by (repeat intro _); show _ = _; kernel_rfl)
noncomputable def S_impl_noSend (k : Nat) : Summ K TyK := sm cod (Bool) [.bo] [.g [.i .i64, .l true .item]] [] (fun k v1 v2 => impl_noSend k (⟨v1, v2⟩ : DSend)) k [.c (.b)] [] (fun r => (r, ())) (fun v1 => v1) true
theorem ok_impl_noSend (k : Nat) : SummOk Try.prog cod 111 (S_impl_noSend k) := sumOk codOk Try.f111 (fun k => lookT []) [] false [.tmp 2] 0 [] mixed Try.func111 (by kernel_rfl) (by kernel_rfl) (by kernel_rfl) (by kernel_rfl)
  (fun k => Known.of tok eok codOk (all_nil))
  (fun k => QuietOk.of (all_nil))
  (fun a => rfl)
  (all_nil)
  (fun k => by (repeat intro _); show _ = _; kernel_rfl)
noncomputable def S_impl_noTake (k : Nat) : Summ K TyK := sm cod (Bool) [.bo] [.g [.i .i64, .l true .held, .s, .l true .str]] [] (fun k v1 v2 v3 v4 => impl_noTake k (⟨v1, v2, v3, v4⟩ : DTake)) k [.c (.b)] [] (fun r => (r, ())) (fun v1 => v1) true
theorem ok_impl_noTake (k : Nat) : SummOk Try.prog cod 112 (S_impl_noTake k) := sumOk codOk Try.f112 (fun k => lookT []) [] false [.tmp 2] 0 [] mixed Try.func112 (by kernel_rfl) (by kernel_rfl) (by kernel_rfl) (by kernel_rfl)
  (fun k => Known.of tok eok codOk (all_nil))
  (fun k => QuietOk.of (all_nil))
  (fun a => rfl)
  (all_nil)
  (fun k => by (repeat intro _); show _ = _; kernel_rfl)
noncomputable def S_impl_ValidEnd (k : Nat) : Summ K TyK := sm cod (Bool) [.bo] [.g [.i .i64, .b, .i .i64, .i .i64, .i .i64, .b, .i .i64, .l true .item, .i .i64, .l true .held, .s, .l true .str]] [] (fun k v1 v2 v3 v4 v5 v6 v7 v8 v9 v10 v11 v12 => impl_ValidEnd k (⟨v1, v2, v3, v4, v5, v6, (⟨v7, v8⟩ : DSend), (⟨v9, v10, v11, v12⟩ : DTake)⟩ : DEnd)) k [.c (.b)] [] (fun r => (r, ())) (fun v1 => v1) true
theorem ok_impl_ValidEnd (k : Nat) : SummOk Try.prog cod 46 (S_impl_ValidEnd k) := sumOk codOk Try.f46 (fun k => lookT [(75, S_impl_in k), (109, S_impl_ValidSend k), (110, S_impl_ValidTake k), (111, S_impl_noSend k), (112, S_impl_noTake k)]) [] false [.tmp 2] 0 [] mixed Try.func46 (by kernel_rfl) (by kernel_rfl) (by kernel_rfl) (by kernel_rfl)
  (fun k => Known.of tok eok codOk (all_cons (ok_impl_in k) (all_cons (ok_impl_ValidSend k) (all_cons (ok_impl_ValidTake k) (all_cons (ok_impl_noSend k) (all_cons (ok_impl_noTake k) (all_nil)))))))
  (fun k => QuietOk.of (all_cons (fun h r => ⟨rfl, rfl⟩) (all_cons (fun h r => ⟨rfl, rfl⟩) (all_cons (fun h r => ⟨rfl, rfl⟩) (all_cons (fun h r => ⟨rfl, rfl⟩) (all_cons (fun h r => ⟨rfl, rfl⟩) (all_nil)))))))
  (fun a => rfl)
  (all_nil)
  (fun k => by (repeat intro _); show _ = _; kernel_rfl)
noncomputable def S_impl_copySend (k : Nat) : Summ K TyK := sm cod (DSend) [.bo] [.g [.i .i64, .l true .item]] [] (fun k v1 v2 => impl_copySend k (⟨v1, v2⟩ : DSend)) k [.g [.i .i64, .o 0]] [.l .item] (fun r => (r.Base, (), r.Items, ())) (fun v1 v2 => (⟨v1, v2⟩ : DSend)) false
theorem ok_impl_copySend (k : Nat) : SummOk Try.prog cod 126 (S_impl_copySend k) := sumOk codOk Try.f126 (fun k => lookT []) [] false [.cell 2 37] 0 [] mixed Try.func126 (by kernel_rfl) (by kernel_rfl) (by kernel_rfl) (by kernel_rfl)
  (fun k => Known.of tok eok codOk (all_nil))
  (fun k => QuietOk.of (all_nil))
  (fun a => rfl)
  (all_nil)
  (fun k => by (repeat intro _); show _ = _; kernel_rfl)
noncomputable def S_impl_copyTake (k : Nat) : Summ K TyK := sm cod (DTake) [.bo] [.g [.i .i64, .l true .held, .s, .l true .str]] [] (fun k v1 v2 v3 v4 => impl_copyTake k (⟨v1, v2, v3, v4⟩ : DTake)) k [.g [.i .i64, .o 0, .s, .o 1]] [.l .held, .l .str] (fun r => (r.Next, (), r.Open, (), r.Held, r.Ready, ())) (fun v1 v2 v3 v4 => (⟨v1, v3, v2, v4⟩ : DTake)) false
theorem ok_impl_copyTake (k : Nat) : SummOk Try.prog cod 127 (S_impl_copyTake k) := sumOk codOk Try.f127 (fun k => lookT []) [] false [.cell 2 40] 0 [] mixed Try.func127 (by kernel_rfl) (by kernel_rfl) (by kernel_rfl) (by kernel_rfl)
  (fun k => Known.of tok eok codOk (all_nil))
  (fun k => QuietOk.of (all_nil))
  (fun a => rfl)
  (all_nil)
  (fun k => by (repeat intro _); show _ = _; kernel_rfl)
noncomputable def S_impl_copyEnd (k : Nat) : Summ K TyK := sm cod (DEnd) [.bo] [.g [.i .i64, .b, .i .i64, .i .i64, .i .i64, .b, .i .i64, .l true .item, .i .i64, .l true .held, .s, .l true .str]] [] (fun k v1 v2 v3 v4 v5 v6 v7 v8 v9 v10 v11 v12 => impl_copyEnd k (⟨v1, v2, v3, v4, v5, v6, (⟨v7, v8⟩ : DSend), (⟨v9, v10, v11, v12⟩ : DTake)⟩ : DEnd)) k [.g [.i .i64, .b, .i .i64, .i .i64, .i .i64, .b, .i .i64, .o 0, .i .i64, .o 1, .s, .o 2]] [.l .item, .l .held, .l .str] (fun r => (r.Number, r.Up, r.Life, r.Peer, r.Since, r.Owes, r.Send.Base, (), r.Take.Next, (), r.Take.Open, (), r.Send.Items, r.Take.Held, r.Take.Ready, ())) (fun v1 v2 v3 v4 v5 v6 v7 v8 v9 v10 v11 v12 => (⟨v1, v2, v3, v4, v5, v6, (⟨v7, v10⟩ : DSend), (⟨v8, v11, v9, v12⟩ : DTake)⟩ : DEnd)) false
theorem ok_impl_copyEnd (k : Nat) : SummOk Try.prog cod 58 (S_impl_copyEnd k) := sumOk codOk Try.f58 (fun k => lookT [(126, S_impl_copySend k), (127, S_impl_copyTake k)]) [] false [.cell 2 42] 0 [] mixed Try.func58 (by kernel_rfl) (by kernel_rfl) (by kernel_rfl) (by kernel_rfl)
  (fun k => Known.of tok eok codOk (all_cons (ok_impl_copySend k) (all_cons (ok_impl_copyTake k) (all_nil))))
  (fun k => QuietOk.of (all_cons (fun h r => by cases h) (all_cons (fun h r => by cases h) (all_nil))))
  (fun a => rfl)
  (all_nil)
  (fun k => by (repeat intro _); show _ = _; kernel_rfl)
noncomputable def S_impl_validPacket (k : Nat) : Summ K TyK := sm cod (Bool) [.bo] [.g [.i .i64, .i .i64, .i .i64, .i .i64, .i .i64, .i .i64, .i .i64, .b, .s]] [] (fun k v1 v2 v3 v4 v5 v6 v7 v8 v9 => impl_validPacket k (⟨v1, v2, v3, v4, v5, v6, v7, v8, v9⟩ : DPacket)) k [.c (.b)] [] (fun r => (r, ())) (fun v1 => v1) true
theorem ok_impl_validPacket (k : Nat) : SummOk Try.prog cod 59 (S_impl_validPacket k) := sumOk codOk Try.f59 (fun k => lookT [(75, S_impl_in k)]) [] false [.tmp 2] 0 [] mixed Try.func59 (by kernel_rfl) (by kernel_rfl) (by kernel_rfl) (by kernel_rfl)
  (fun k => Known.of tok eok codOk (all_cons (ok_impl_in k) (all_nil)))
  (fun k => QuietOk.of (all_cons (fun h r => ⟨rfl, rfl⟩) (all_nil)))
  (fun a => rfl)
  (all_nil)
  (fun k => by (repeat intro _); show _ = _; kernel_rfl)
noncomputable def S_impl_SendWord (k : Nat) : Summ K TyK := sm cod (DSend) [.bo, .bo, .bo] [.g [.i .i64, .l true .item], .c (.i .i64), .c (.i .i64)] [] (fun k v1 v2 v3 v4 => impl_SendWord k (⟨v1, v2⟩ : DSend) v3 v4) k [.g [.i .i64, .o 0]] [.l .item] (fun r => (r.Base, (), r.Items, ())) (fun v1 v2 => (⟨v1, v2⟩ : DSend)) false
noncomputable abbrev L_impl_SendWord : List (Nat × Cut K TyK (DSend)) := [(5, ct cod [1, 2, 6, 7, 8] [.c (.i .i64), .c (.i .i64), .c (.r 0 0), .c (.r 1 0), .c (.i .i64)] [.x [.i .i64, .o 2], .x [.i .i64, .o 3], .l .item, .l .item] impl_SendWord_l5),
  (12, ct cod [2, 6, 7, 9] [.c (.i .i64), .c (.r 0 0), .c (.r 1 0), .c (.i .i64)] [.x [.i .i64, .o 2], .x [.i .i64, .o 3], .l .item, .l .item] impl_SendWord_l12),
  (13, ct cod [2, 6, 7, 9] [.c (.i .i64), .c (.r 0 0), .c (.r 1 0), .c (.i .i64)] [.x [.i .i64, .o 2], .x [.i .i64, .o 3], .l .item, .l .item] impl_SendWord_l13)]
theorem ok_impl_SendWord (k : Nat) : SummOk Try.prog cod 60 (S_impl_SendWord k) := sumOk codOk Try.f60 (fun k => lookT [(109, S_impl_ValidSend k), (126, S_impl_copySend k), (75, S_impl_in k)]) L_impl_SendWord false [.cell 6 37] 0 [] mixed Try.func60 (by kernel_rfl) (by kernel_rfl) (by kernel_rfl) (by kernel_rfl)
  (fun k => Known.of tok eok codOk (all_cons (ok_impl_ValidSend k) (all_cons (ok_impl_copySend k) (all_cons (ok_impl_in k) (all_nil)))))
  (fun k => QuietOk.of (all_cons (fun h r => ⟨rfl, rfl⟩) (all_cons (fun h r => by cases h) (all_cons (fun h r => ⟨rfl, rfl⟩) (all_nil)))))
  (fun a => rfl)
  (all_cons (ctGood codOk (by kernel_rfl) (by (repeat intro _); show _ = _; kernel_rfl) (fun k => by (repeat intro _); show _ = _; kernel_rfl)) (all_cons (ctGood codOk (by kernel_rfl) (by (repeat intro _); show _ = _; kernel_rfl) (fun k => by (repeat intro _); show _ = _; kernel_rfl)) (all_cons (ctGood codOk (by kernel_rfl) (by (repeat intro _); show _ = _; kernel_rfl) (fun k => by (repeat intro _); show _ = _; kernel_rfl)) (all_nil))))
  (fun k => by (repeat intro _); show _ = _; kernel_rfl)
noncomputable def S_impl_flow (k : Nat) : Summ K TyK := sm cod (DTake) [.mv] [.g [.i .i64, .o 0, .s, .o 1]] [.l .held, .l .str] (fun k v1 v2 v3 v4 => impl_flow k (⟨v1, v3, v2, v4⟩ : DTake)) k [.g [.i .i64, .o 2, .s, .o 3]] [.d, .d, .l .held, .l .str] (fun r => (r.Next, (), r.Open, (), r.Held, r.Ready, ())) (fun v1 v2 v3 v4 => (⟨v1, v3, v2, v4⟩ : DTake)) false
noncomputable abbrev L_impl_flow : List (Nat × Cut K TyK (DTake)) := [(1, ct cod [1, 2] [.c (.r 2 0), .c (.r 3 0)] [.d, .d, .x [.i .i64, .o 4, .s, .o 5], .x [.i .i64, .o 6, .s, .o 7], .l .held, .l .str, .l .held, .l .str] impl_flow_l1)]
theorem ok_impl_flow (k : Nat) : SummOk Try.prog cod 128 (S_impl_flow k) := sumOk codOk Try.f128 (fun k => lookT [(158, S_impl_goes k)]) L_impl_flow false [.cell 2 40] 2 [true, true] mixed Try.func128 (by kernel_rfl) (by kernel_rfl) (by kernel_rfl) (by kernel_rfl)
  (fun k => Known.of tok eok codOk (all_cons (ok_impl_goes k) (all_nil)))
  (fun k => QuietOk.of (all_cons (fun h r => ⟨rfl, rfl⟩) (all_nil)))
  (fun a => rfl)
  (all_cons (ctGood codOk (by kernel_rfl) (by (repeat intro _); show _ = _; kernel_rfl) (fun k => by (repeat intro _); show _ = _; kernel_rfl)) (all_nil))
  (fun k => by (repeat intro _); show _ = _; kernel_rfl)
noncomputable def S_impl_TakePart (k : Nat) : Summ K TyK := sm cod (DTake) [.bo, .bo, .bo] [.g [.i .i64, .l true .held, .s, .l true .str], .c (.i .i64), .g [.s, .b]] [] (fun k v1 v2 v3 v4 v5 v6 v7 => impl_TakePart k (⟨v1, v2, v3, v4⟩ : DTake) v5 (⟨v6, v7⟩ : DPart)) k [.g [.i .i64, .o 0, .s, .o 1]] [.l .held, .l .str] (fun r => (r.Next, (), r.Open, (), r.Held, r.Ready, ())) (fun v1 v2 v3 v4 => (⟨v1, v3, v2, v4⟩ : DTake)) false
noncomputable abbrev L_impl_TakePart : List (Nat × Cut K TyK (DTake)) := [(7, ct cod [1, 5, 6, 7, 8] [.c (.i .i64), .c (.r 0 0), .c (.r 1 0), .c (.r 2 0), .c (.i .i64)] [.x [.s, .b], .x [.i .i64, .o 3, .s, .o 4], .x [.i .i64, .o 5, .s, .o 6], .l .held, .l .str, .l .held, .l .str] impl_TakePart_l7)]
theorem ok_impl_TakePart (k : Nat) : SummOk Try.prog cod 61 (S_impl_TakePart k) := sumOk codOk Try.f61 (fun k => lookT [(110, S_impl_ValidTake k), (127, S_impl_copyTake k), (75, S_impl_in k), (128, S_impl_flow k)]) L_impl_TakePart false [.cell 6 40] 0 [] mixed Try.func61 (by kernel_rfl) (by kernel_rfl) (by kernel_rfl) (by kernel_rfl)
  (fun k => Known.of tok eok codOk (all_cons (ok_impl_ValidTake k) (all_cons (ok_impl_copyTake k) (all_cons (ok_impl_in k) (all_cons (ok_impl_flow k) (all_nil))))))
  (fun k => QuietOk.of (all_cons (fun h r => ⟨rfl, rfl⟩) (all_cons (fun h r => by cases h) (all_cons (fun h r => ⟨rfl, rfl⟩) (all_cons (fun h r => by cases h) (all_nil))))))
  (fun a => rfl)
  (all_cons (ctGood codOk (by kernel_rfl) (by (repeat intro _); show _ = _; kernel_rfl) (fun k => by (repeat intro _); show _ = _; kernel_rfl)) (all_nil))
  (fun k => by (repeat intro _); show _ = _; kernel_rfl)
noncomputable def S_impl_EndTake (k : Nat) : Summ K TyK := sm cod (DActed) [.bo, .bo] [.g [.i .i64, .b, .i .i64, .i .i64, .i .i64, .b, .i .i64, .l true .item, .i .i64, .l true .held, .s, .l true .str], .g [.i .i64, .i .i64, .i .i64, .i .i64, .i .i64, .i .i64, .i .i64, .b, .s]] [] (fun k v1 v2 v3 v4 v5 v6 v7 v8 v9 v10 v11 v12 v13 v14 v15 v16 v17 v18 v19 v20 v21 => impl_EndTake k (⟨v1, v2, v3, v4, v5, v6, (⟨v7, v8⟩ : DSend), (⟨v9, v10, v11, v12⟩ : DTake)⟩ : DEnd) (⟨v13, v14, v15, v16, v17, v18, v19, v20, v21⟩ : DPacket)) k [.g [.i .i64, .i .i64, .b, .i .i64, .i .i64, .i .i64, .b, .i .i64, .o 0, .i .i64, .o 1, .s, .o 2, .o 3, .s]] [.l .item, .l .held, .l .str, .l .packet] (fun r => (r.Code, r.End.Number, r.End.Up, r.End.Life, r.End.Peer, r.End.Since, r.End.Owes, r.End.Send.Base, (), r.End.Take.Next, (), r.End.Take.Open, (), (), r.Text, r.End.Send.Items, r.End.Take.Held, r.End.Take.Ready, r.Out, ())) (fun v1 v2 v3 v4 v5 v6 v7 v8 v9 v10 v11 v12 v13 v14 v15 => (⟨v1, (⟨v2, v3, v4, v5, v6, v7, (⟨v8, v12⟩ : DSend), (⟨v9, v13, v10, v14⟩ : DTake)⟩ : DEnd), v15, v11⟩ : DActed)) false
noncomputable abbrev L_impl_EndTake : List (Nat × Cut K TyK (DActed)) := [(9, ct cod [3, 4, 5, 6] [.c (.r 0 0), .c (.r 1 0), .c (.r 2 0), .c (.r 2 1)] [.x [.i .i64, .i .i64, .i .i64, .i .i64, .i .i64, .i .i64, .i .i64, .b, .s], .x [.i .i64, .i .i64, .b, .i .i64, .i .i64, .i .i64, .b, .i .i64, .o 3, .i .i64, .o 4, .s, .o 5, .o 6, .s], .x [.i .i64, .i .i64, .b, .i .i64, .i .i64, .i .i64, .b, .i .i64, .o 7, .i .i64, .o 8, .s, .o 9, .o 10, .s], .l .item, .l .held, .l .str, .l .packet, .l .item, .l .held, .l .str, .l .packet] impl_EndTake_l9),
  (16, ct cod [4, 5] [.c (.r 0 0), .c (.r 1 0)] [.x [.i .i64, .i .i64, .b, .i .i64, .i .i64, .i .i64, .b, .i .i64, .o 2, .i .i64, .o 3, .s, .o 4, .o 5, .s], .x [.i .i64, .i .i64, .b, .i .i64, .i .i64, .i .i64, .b, .i .i64, .o 6, .i .i64, .o 7, .s, .o 8, .o 9, .s], .l .item, .l .held, .l .str, .l .packet, .l .item, .l .held, .l .str, .l .packet] impl_EndTake_l16)]
theorem ok_impl_EndTake (k : Nat) : SummOk Try.prog cod 15 (S_impl_EndTake k) := sumOk codOk Try.f15 (fun k => lookT [(46, S_impl_ValidEnd k), (58, S_impl_copyEnd k), (59, S_impl_validPacket k), (60, S_impl_SendWord k), (61, S_impl_TakePart k)]) L_impl_EndTake false [.cell 4 45] 0 [] mixed Try.func15 (by kernel_rfl) (by kernel_rfl) (by kernel_rfl) (by kernel_rfl)
  (fun k => Known.of tok eok codOk (all_cons (ok_impl_ValidEnd k) (all_cons (ok_impl_copyEnd k) (all_cons (ok_impl_validPacket k) (all_cons (ok_impl_SendWord k) (all_cons (ok_impl_TakePart k) (all_nil)))))))
  (fun k => QuietOk.of (all_cons (fun h r => ⟨rfl, rfl⟩) (all_cons (fun h r => by cases h) (all_cons (fun h r => ⟨rfl, rfl⟩) (all_cons (fun h r => by cases h) (all_cons (fun h r => by cases h) (all_nil)))))))
  (fun a => rfl)
  (all_cons (ctGood codOk (by kernel_rfl) (by (repeat intro _); show _ = _; kernel_rfl) (fun k => by (repeat intro _); show _ = _; kernel_rfl)) (all_cons (ctGood codOk (by kernel_rfl) (by (repeat intro _); show _ = _; kernel_rfl) (fun k => by (repeat intro _); show _ = _; kernel_rfl)) (all_nil)))
  (fun k => by (repeat intro _); show _ = _; kernel_rfl)
noncomputable def S_spec_l1Open (k : Nat) : Summ K TyK := sm cod (DL1Rd) [.pe] [.c (.l false .byte)] [] (spec_l1Open) k [.c (.r 0 0)] [.x [.l false .byte, .i .i64]] (fun r => ((), r.b, r.p, ())) (fun v1 v2 => (⟨v1, v2⟩ : DL1Rd)) false
noncomputable abbrev L_spec_l1Open : List (Nat × Cut K TyK (DL1Rd)) := [(3, ct cod [0] [.c (.l false .byte)] [] spec_l1Open_l3)]
theorem ok_spec_l1Open (k : Nat) : SummOk Try.prog cod 70 (S_spec_l1Open k) := sumOk codOk Try.f70 (fun k => lookT []) L_spec_l1Open false [.tmp 2] 0 [] mixed Try.func70 (by kernel_rfl) (by kernel_rfl) (by kernel_rfl) (by kernel_rfl)
  (fun k => Known.of tok eok codOk (all_nil))
  (fun k => QuietOk.of (all_nil))
  (fun a => rfl)
  (all_cons (ctGood codOk (by kernel_rfl) (by (repeat intro _); show _ = _; kernel_rfl) (fun k => by (repeat intro _); show _ = _; kernel_rfl)) (all_nil))
  (fun k => by (repeat intro _); show _ = _; kernel_rfl)
noncomputable def S_spec_l1Many (k : Nat) : Summ K TyK := sm cod (ByteArray) [.bo, .bo] [.c (.s), .c (.i .i64)] [] (spec_l1Many) k [.c (.s)] [] (fun r => (r, ())) (fun v1 => v1) true
noncomputable abbrev L_spec_l1Many : List (Nat × Cut K TyK (ByteArray)) := [(2, ct cod [0, 1, 5] [.c (.s), .c (.i .i64), .c (.s)] [] spec_l1Many_l2),
  (5, ct cod [0, 1, 5] [.c (.s), .c (.i .i64), .c (.s)] [] spec_l1Many_l5)]
theorem ok_spec_l1Many (k : Nat) : SummOk Try.prog cod 94 (S_spec_l1Many k) := sumOk codOk Try.f94 (fun k => lookT []) L_spec_l1Many false [.tmp 4] 0 [] mixed Try.func94 (by kernel_rfl) (by kernel_rfl) (by kernel_rfl) (by kernel_rfl)
  (fun k => Known.of tok eok codOk (all_nil))
  (fun k => QuietOk.of (all_nil))
  (fun a => rfl)
  (all_cons (ctGood codOk (by kernel_rfl) (by (repeat intro _); show _ = _; kernel_rfl) (fun k => by (repeat intro _); show _ = _; kernel_rfl)) (all_cons (ctGood codOk (by kernel_rfl) (by (repeat intro _); show _ = _; kernel_rfl) (fun k => by (repeat intro _); show _ = _; kernel_rfl)) (all_nil)))
  (fun k => by (repeat intro _); show _ = _; kernel_rfl)
noncomputable def S_spec_l1Rd_pick (k : Nat) : Summ K TyK := sm cod (Int × DL1Rd) [.mv, .bo] [.c (.r 0 0), .c (.i .i64)] [.x [.l false .byte, .i .i64]] (fun k v1 v2 v3 => spec_l1Rd_pick k (⟨v2, v3⟩ : DL1Rd) v1) k [.c (.i .i64)] [.x [.l false .byte, .i .i64]] (fun r => (r.1, r.2.b, r.2.p, ())) (fun v1 v2 v3 => (v1, (⟨v2, v3⟩ : DL1Rd))) false
theorem ok_spec_l1Rd_pick (k : Nat) : SummOk Try.prog cod 73 (S_spec_l1Rd_pick k) := sumOk codOk Try.f73 (fun k => lookT []) [] false [.tmp 4] 1 [false] mixed Try.func73 (by kernel_rfl) (by kernel_rfl) (by kernel_rfl) (by kernel_rfl)
  (fun k => Known.of tok eok codOk (all_nil))
  (fun k => QuietOk.of (all_nil))
  (fun a => rfl)
  (all_nil)
  (fun k => by (repeat intro _); show _ = _; kernel_rfl)
noncomputable def S_spec_l1Key (k : Nat) : Summ K TyK := sm cod (ByteArray × DL1Rd) [.bo] [.c (.r 0 0)] [.x [.l false .byte, .i .i64]] (fun k v1 v2 => spec_l1Key k (⟨v1, v2⟩ : DL1Rd)) k [.c (.s)] [.x [.l false .byte, .i .i64]] (fun r => (r.1, r.2.b, r.2.p, ())) (fun v1 v2 v3 => (v1, (⟨v2, v3⟩ : DL1Rd))) false
theorem ok_spec_l1Key (k : Nat) : SummOk Try.prog cod 147 (S_spec_l1Key k) := sumOk codOk Try.f147 (fun k => lookT [(94, S_spec_l1Many k), (73, S_spec_l1Rd_pick k)]) [] false [.tmp 2] 1 [false] mixed Try.func147 (by kernel_rfl) (by kernel_rfl) (by kernel_rfl) (by kernel_rfl)
  (fun k => Known.of tok eok codOk (all_cons (ok_spec_l1Many k) (all_cons (ok_spec_l1Rd_pick k) (all_nil))))
  (fun k => QuietOk.of (all_cons (fun h r => ⟨rfl, rfl⟩) (all_cons (fun h r => by cases h) (all_nil))))
  (fun a => rfl)
  (all_nil)
  (fun k => by (repeat intro _); show _ = _; kernel_rfl)
noncomputable def S_spec_l1Width (k : Nat) : Summ K TyK := sm cod (Int × DL1Rd) [.bo] [.c (.r 0 0)] [.x [.l false .byte, .i .i64]] (fun k v1 v2 => spec_l1Width k (⟨v1, v2⟩ : DL1Rd)) k [.c (.i .i64)] [.x [.l false .byte, .i .i64]] (fun r => (r.1, r.2.b, r.2.p, ())) (fun v1 v2 v3 => (v1, (⟨v2, v3⟩ : DL1Rd))) false
theorem ok_spec_l1Width (k : Nat) : SummOk Try.prog cod 148 (S_spec_l1Width k) := sumOk codOk Try.f148 (fun k => lookT [(73, S_spec_l1Rd_pick k)]) [] false [.tmp 2] 1 [false] mixed Try.func148 (by kernel_rfl) (by kernel_rfl) (by kernel_rfl) (by kernel_rfl)
  (fun k => Known.of tok eok codOk (all_cons (ok_spec_l1Rd_pick k) (all_nil)))
  (fun k => QuietOk.of (all_cons (fun h r => by cases h) (all_nil)))
  (fun a => rfl)
  (all_nil)
  (fun k => by (repeat intro _); show _ = _; kernel_rfl)
noncomputable def S_spec_NewEnd (k : Nat) : Summ K TyK := sm cod (DEnd) [.bo] [.c (.i .i64)] [] (spec_NewEnd) k [.g [.i .i64, .b, .i .i64, .i .i64, .i .i64, .b, .i .i64, .o 0, .i .i64, .o 1, .s, .o 2]] [.l .item, .l .held, .l .str] (fun r => (r.Number, r.Up, r.Life, r.Peer, r.Since, r.Owes, r.Send.Base, (), r.Take.Next, (), r.Take.Open, (), r.Send.Items, r.Take.Held, r.Take.Ready, ())) (fun v1 v2 v3 v4 v5 v6 v7 v8 v9 v10 v11 v12 => (⟨v1, v2, v3, v4, v5, v6, (⟨v7, v10⟩ : DSend), (⟨v8, v11, v9, v12⟩ : DTake)⟩ : DEnd)) false
theorem ok_spec_NewEnd (k : Nat) : SummOk Try.prog cod 172 (S_spec_NewEnd k) := sumOk codOk Try.f172 (fun k => lookT [(89, S_spec_l1In k)]) [] false [.cell 2 42] 0 [] mixed Try.func172 (by kernel_rfl) (by kernel_rfl) (by kernel_rfl) (by kernel_rfl)
  (fun k => Known.of tok eok codOk (all_cons (ok_spec_l1In k) (all_nil)))
  (fun k => QuietOk.of (all_cons (fun h r => ⟨rfl, rfl⟩) (all_nil)))
  (fun a => rfl)
  (all_nil)
  (fun k => by (repeat intro _); show _ = _; kernel_rfl)
noncomputable def S_spec_NewWorld (k : Nat) : Summ K TyK := sm cod (DWorld) [.bo, .bo] [.c (.s), .c (.i .i64)] [] (spec_NewWorld) k [.g [.s, .i .i64, .o 0, .o 1, .s, .o 2, .o 3]] [.l .end, .l .parcel, .l .record, .l .record] (fun r => (r.Key, r.Width, (), (), r.Forged, (), (), r.Ends, r.Flight, r.Given, r.Taken, ())) (fun v1 v2 v3 v4 v5 v6 v7 => (⟨v1, v2, v4, v5, v3, v6, v7⟩ : DWorld)) false
theorem ok_spec_NewWorld (k : Nat) : SummOk Try.prog cod 146 (S_spec_NewWorld k) := sumOk codOk Try.f146 (fun k => lookT [(89, S_spec_l1In k), (172, S_spec_NewEnd k)]) [] false [.cell 4 60] 0 [] mixed Try.func146 (by kernel_rfl) (by kernel_rfl) (by kernel_rfl) (by kernel_rfl)
  (fun k => Known.of tok eok codOk (all_cons (ok_spec_l1In k) (all_cons (ok_spec_NewEnd k) (all_nil))))
  (fun k => QuietOk.of (all_cons (fun h r => ⟨rfl, rfl⟩) (all_cons (fun h r => by cases h) (all_nil))))
  (fun a => rfl)
  (all_nil)
  (fun k => by (repeat intro _); show _ = _; kernel_rfl)
noncomputable def S_spec_l7RecordsOk (k : Nat) : Summ K TyK := sm cod (Bool) [.bo] [.c (.l true .record)] [] (spec_l7RecordsOk) k [.c (.b)] [] (fun r => (r, ())) (fun v1 => v1) true
noncomputable abbrev L_spec_l7RecordsOk : List (Nat × Cut K TyK (Bool)) := [(2, ct cod [0, 3] [.c (.l true .record), .c (.i .i64)] [] spec_l7RecordsOk_l2)]
theorem ok_spec_l7RecordsOk (k : Nat) : SummOk Try.prog cod 90 (S_spec_l7RecordsOk k) := sumOk codOk Try.f90 (fun k => lookT [(89, S_spec_l1In k)]) L_spec_l7RecordsOk false [.tmp 2] 0 [] mixed Try.func90 (by kernel_rfl) (by kernel_rfl) (by kernel_rfl) (by kernel_rfl)
  (fun k => Known.of tok eok codOk (all_cons (ok_spec_l1In k) (all_nil)))
  (fun k => QuietOk.of (all_cons (fun h r => ⟨rfl, rfl⟩) (all_nil)))
  (fun a => rfl)
  (all_cons (ctGood codOk (by kernel_rfl) (by (repeat intro _); show _ = _; kernel_rfl) (fun k => by (repeat intro _); show _ = _; kernel_rfl)) (all_nil))
  (fun k => by (repeat intro _); show _ = _; kernel_rfl)
noncomputable def S_spec_ValidWorld (k : Nat) : Summ K TyK := sm cod (Bool) [.bo] [.g [.s, .i .i64, .l true .end, .l true .parcel, .s, .l true .record, .l true .record]] [] (fun k v1 v2 v3 v4 v5 v6 v7 => spec_ValidWorld k (⟨v1, v2, v3, v4, v5, v6, v7⟩ : DWorld)) k [.c (.b)] [] (fun r => (r, ())) (fun v1 => v1) true
noncomputable abbrev L_spec_ValidWorld : List (Nat × Cut K TyK (Bool)) := [(4, ct cod [1, 3] [.c (.r 0 0), .c (.i .i64)] [.x [.s, .i .i64, .l true .end, .l true .parcel, .s, .l true .record, .l true .record]] spec_ValidWorld_l4),
  (9, ct cod [1, 4] [.c (.r 0 0), .c (.i .i64)] [.x [.s, .i .i64, .l true .end, .l true .parcel, .s, .l true .record, .l true .record]] spec_ValidWorld_l9)]
theorem ok_spec_ValidWorld (k : Nat) : SummOk Try.prog cod 34 (S_spec_ValidWorld k) := sumOk codOk Try.f34 (fun k => lookT [(89, S_spec_l1In k), (45, S_spec_ValidEnd k), (90, S_spec_l7RecordsOk k)]) L_spec_ValidWorld false [.tmp 2] 0 [] mixed Try.func34 (by kernel_rfl) (by kernel_rfl) (by kernel_rfl) (by kernel_rfl)
  (fun k => Known.of tok eok codOk (all_cons (ok_spec_l1In k) (all_cons (ok_spec_ValidEnd k) (all_cons (ok_spec_l7RecordsOk k) (all_nil)))))
  (fun k => QuietOk.of (all_cons (fun h r => ⟨rfl, rfl⟩) (all_cons (fun h r => ⟨rfl, rfl⟩) (all_cons (fun h r => ⟨rfl, rfl⟩) (all_nil)))))
  (fun a => rfl)
  (all_cons (ctGood codOk (by kernel_rfl) (by (repeat intro _); show _ = _; kernel_rfl) (fun k => by (repeat intro _); show _ = _; kernel_rfl)) (all_cons (ctGood codOk (by kernel_rfl) (by (repeat intro _); show _ = _; kernel_rfl) (fun k => by (repeat intro _); show _ = _; kernel_rfl)) (all_nil)))
  (fun k => by (repeat intro _); show _ = _; kernel_rfl)
noncomputable def S_spec_l7Copy (k : Nat) : Summ K TyK := sm cod (DWorld) [.bo] [.g [.s, .i .i64, .l true .end, .l true .parcel, .s, .l true .record, .l true .record]] [] (fun k v1 v2 v3 v4 v5 v6 v7 => spec_l7Copy k (⟨v1, v2, v3, v4, v5, v6, v7⟩ : DWorld)) k [.g [.s, .i .i64, .o 0, .o 1, .s, .o 2, .o 3]] [.l .end, .l .parcel, .l .record, .l .record] (fun r => (r.Key, r.Width, (), (), r.Forged, (), (), r.Ends, r.Flight, r.Given, r.Taken, ())) (fun v1 v2 v3 v4 v5 v6 v7 => (⟨v1, v2, v4, v5, v3, v6, v7⟩ : DWorld)) false
noncomputable abbrev L_spec_l7Copy : List (Nat × Cut K TyK (DWorld)) := [(4, ct cod [1, 2, 3, 4] [.c (.r 0 0), .c (.r 1 0), .c (.r 2 0), .c (.i .i64)] [.x [.s, .i .i64, .l true .end, .l true .parcel, .s, .l true .record, .l true .record], .x [.s, .i .i64, .o 3, .o 4, .s, .o 5, .o 6], .x [.s, .i .i64, .o 7, .l true .parcel, .s, .l true .record, .l true .record], .l .end, .l .parcel, .l .record, .l .record, .l .end] spec_l7Copy_l4)]
theorem ok_spec_l7Copy (k : Nat) : SummOk Try.prog cod 85 (S_spec_l7Copy k) := sumOk codOk Try.f85 (fun k => lookT [(52, S_spec_l6Copy k)]) L_spec_l7Copy false [.cell 2 60] 0 [] mixed Try.func85 (by kernel_rfl) (by kernel_rfl) (by kernel_rfl) (by kernel_rfl)
  (fun k => Known.of tok eok codOk (all_cons (ok_spec_l6Copy k) (all_nil)))
  (fun k => QuietOk.of (all_cons (fun h r => by cases h) (all_nil)))
  (fun a => rfl)
  (all_cons (ctGood codOk (by kernel_rfl) (by (repeat intro _); show _ = _; kernel_rfl) (fun k => by (repeat intro _); show _ = _; kernel_rfl)) (all_nil))
  (fun k => by (repeat intro _); show _ = _; kernel_rfl)
noncomputable def S_spec_SendTick (k : Nat) : Summ K TyK := sm cod (DSend × List Int) [.bo] [.g [.i .i64, .l true .item]] [] (fun k v1 v2 => spec_SendTick k (⟨v1, v2⟩ : DSend)) k [.g [.i .i64, .o 0], .c (.o 1)] [.l .item, .l .int] (fun r => (r.1.Base, (), (), r.1.Items, r.2, ())) (fun v1 v2 v3 => ((⟨v1, v2⟩ : DSend), v3)) false
noncomputable abbrev L_spec_SendTick : List (Nat × Cut K TyK (DSend × List Int)) := [(6, ct cod [1, 2, 4, 5, 6] [.c (.r 0 0), .c (.r 1 0), .c (.o 2), .c (.r 3 0), .c (.i .i64)] [.x [.i .i64, .l true .item], .x [.i .i64, .o 4], .l .int, .x [.i .i64, .o 5], .l .item, .l .item] spec_SendTick_l6),
  (7, ct cod [1, 2, 4, 5, 6] [.c (.r 0 0), .c (.r 1 0), .c (.o 2), .c (.r 3 0), .c (.i .i64)] [.x [.i .i64, .l true .item], .x [.i .i64, .o 4], .l .int, .x [.i .i64, .o 5], .l .item, .l .item] spec_SendTick_l7)]
theorem ok_spec_SendTick (k : Nat) : SummOk Try.prog cod 101 (S_spec_SendTick k) := sumOk codOk Try.f101 (fun k => lookT [(105, S_spec_ValidSend k), (118, S_spec_l4Copy k)]) L_spec_SendTick false [.cell 2 37, .tmp 3] 0 [] mixed Try.func101 (by kernel_rfl) (by kernel_rfl) (by kernel_rfl) (by kernel_rfl)
  (fun k => Known.of tok eok codOk (all_cons (ok_spec_ValidSend k) (all_cons (ok_spec_l4Copy k) (all_nil))))
  (fun k => QuietOk.of (all_cons (fun h r => ⟨rfl, rfl⟩) (all_cons (fun h r => by cases h) (all_nil))))
  (fun a => rfl)
  (all_cons (ctGood codOk (by kernel_rfl) (by (repeat intro _); show _ = _; kernel_rfl) (fun k => by (repeat intro _); show _ = _; kernel_rfl)) (all_cons (ctGood codOk (by kernel_rfl) (by (repeat intro _); show _ = _; kernel_rfl) (fun k => by (repeat intro _); show _ = _; kernel_rfl)) (all_nil)))
  (fun k => by (repeat intro _); show _ = _; kernel_rfl)
noncomputable def S_spec_TakeWord (k : Nat) : Summ K TyK := sm cod (Int × Int) [.bo] [.g [.i .i64, .l true .held, .s, .l true .str]] [] (fun k v1 v2 v3 v4 => spec_TakeWord k (⟨v1, v2, v3, v4⟩ : DTake)) k [.c (.i .i64), .c (.i .i64)] [] (fun r => (r.1, r.2, ())) (fun v1 v2 => (v1, v2)) true
noncomputable abbrev L_spec_TakeWord : List (Nat × Cut K TyK (Int × Int)) := [(5, ct cod [1, 4, 5] [.c (.r 0 0), .c (.i .i64), .c (.i .i64)] [.x [.i .i64, .l true .held, .s, .l true .str]] spec_TakeWord_l5),
  (9, ct cod [1, 4, 5, 6, 7] [.c (.r 0 0), .c (.i .i64), .c (.i .i64), .c (.i .i64), .c (.i .i64)] [.x [.i .i64, .l true .held, .s, .l true .str]] spec_TakeWord_l9)]
theorem ok_spec_TakeWord (k : Nat) : SummOk Try.prog cod 102 (S_spec_TakeWord k) := sumOk codOk Try.f102 (fun k => lookT [(106, S_spec_ValidTake k)]) L_spec_TakeWord false [.tmp 2, .tmp 3] 0 [] mixed Try.func102 (by kernel_rfl) (by kernel_rfl) (by kernel_rfl) (by kernel_rfl)
  (fun k => Known.of tok eok codOk (all_cons (ok_spec_ValidTake k) (all_nil)))
  (fun k => QuietOk.of (all_cons (fun h r => ⟨rfl, rfl⟩) (all_nil)))
  (fun a => rfl)
  (all_cons (ctGood codOk (by kernel_rfl) (by (repeat intro _); show _ = _; kernel_rfl) (fun k => by (repeat intro _); show _ = _; kernel_rfl)) (all_cons (ctGood codOk (by kernel_rfl) (by (repeat intro _); show _ = _; kernel_rfl) (fun k => by (repeat intro _); show _ = _; kernel_rfl)) (all_nil)))
  (fun k => by (repeat intro _); show _ = _; kernel_rfl)
noncomputable def S_spec_EndTick (k : Nat) : Summ K TyK := sm cod (DActed) [.bo] [.g [.i .i64, .b, .i .i64, .i .i64, .i .i64, .b, .i .i64, .l true .item, .i .i64, .l true .held, .s, .l true .str]] [] (fun k v1 v2 v3 v4 v5 v6 v7 v8 v9 v10 v11 v12 => spec_EndTick k (⟨v1, v2, v3, v4, v5, v6, (⟨v7, v8⟩ : DSend), (⟨v9, v10, v11, v12⟩ : DTake)⟩ : DEnd)) k [.g [.i .i64, .i .i64, .b, .i .i64, .i .i64, .i .i64, .b, .i .i64, .o 0, .i .i64, .o 1, .s, .o 2, .o 3, .s]] [.l .item, .l .held, .l .str, .l .packet] (fun r => (r.Code, r.End.Number, r.End.Up, r.End.Life, r.End.Peer, r.End.Since, r.End.Owes, r.End.Send.Base, (), r.End.Take.Next, (), r.End.Take.Open, (), (), r.Text, r.End.Send.Items, r.End.Take.Held, r.End.Take.Ready, r.Out, ())) (fun v1 v2 v3 v4 v5 v6 v7 v8 v9 v10 v11 v12 v13 v14 v15 => (⟨v1, (⟨v2, v3, v4, v5, v6, v7, (⟨v8, v12⟩ : DSend), (⟨v9, v13, v10, v14⟩ : DTake)⟩ : DEnd), v15, v11⟩ : DActed)) false
noncomputable abbrev L_spec_EndTick : List (Nat × Cut K TyK (DActed)) := [(9, ct cod [2, 3, 4] [.c (.r 0 0), .c (.r 1 0), .c (.o 2)] [.x [.i .i64, .i .i64, .b, .i .i64, .i .i64, .i .i64, .b, .i .i64, .o 3, .i .i64, .o 4, .s, .o 5, .o 6, .s], .x [.i .i64, .b, .i .i64, .i .i64, .i .i64, .b, .i .i64, .o 7, .i .i64, .o 8, .s, .o 9], .l .packet, .l .item, .l .held, .l .str, .l .packet, .l .item, .l .held, .l .str] spec_EndTick_l9),
  (13, ct cod [2, 3, 4, 5, 6, 7] [.c (.r 0 0), .c (.r 1 0), .c (.o 2), .c (.r 3 0), .c (.o 4), .c (.i .i64)] [.x [.i .i64, .i .i64, .b, .i .i64, .i .i64, .i .i64, .b, .i .i64, .o 5, .i .i64, .o 6, .s, .o 7, .o 8, .s], .x [.i .i64, .b, .i .i64, .i .i64, .i .i64, .b, .i .i64, .o 9, .i .i64, .o 10, .s, .o 11], .l .packet, .x [.i .i64, .o 9], .l .int, .l .item, .l .held, .l .str, .l .packet, .l .item, .l .held, .l .str] spec_EndTick_l13),
  (17, ct cod [2, 3, 4] [.c (.r 0 0), .c (.r 1 0), .c (.o 2)] [.x [.i .i64, .i .i64, .b, .i .i64, .i .i64, .i .i64, .b, .i .i64, .o 3, .i .i64, .o 4, .s, .o 5, .o 6, .s], .x [.i .i64, .b, .i .i64, .i .i64, .i .i64, .b, .i .i64, .o 7, .i .i64, .o 8, .s, .o 9], .l .packet, .l .item, .l .held, .l .str, .l .packet, .l .item, .l .held, .l .str] spec_EndTick_l17),
  (22, ct cod [2, 3, 4] [.c (.r 0 0), .c (.r 1 0), .c (.o 2)] [.x [.i .i64, .i .i64, .b, .i .i64, .i .i64, .i .i64, .b, .i .i64, .o 3, .i .i64, .o 4, .s, .o 5, .o 6, .s], .x [.i .i64, .b, .i .i64, .i .i64, .i .i64, .b, .i .i64, .o 7, .i .i64, .o 8, .s, .o 9], .l .packet, .l .item, .l .held, .l .str, .l .packet, .l .item, .l .held, .l .str] spec_EndTick_l22)]
theorem ok_spec_EndTick (k : Nat) : SummOk Try.prog cod 42 (S_spec_EndTick k) := sumOk codOk Try.f42 (fun k => lookT [(45, S_spec_ValidEnd k), (52, S_spec_l6Copy k), (101, S_spec_SendTick k), (102, S_spec_TakeWord k)]) L_spec_EndTick false [.cell 2 45] 0 [] mixed Try.func42 (by kernel_rfl) (by kernel_rfl) (by kernel_rfl) (by kernel_rfl)
  (fun k => Known.of tok eok codOk (all_cons (ok_spec_ValidEnd k) (all_cons (ok_spec_l6Copy k) (all_cons (ok_spec_SendTick k) (all_cons (ok_spec_TakeWord k) (all_nil))))))
  (fun k => QuietOk.of (all_cons (fun h r => ⟨rfl, rfl⟩) (all_cons (fun h r => by cases h) (all_cons (fun h r => by cases h) (all_cons (fun h r => ⟨rfl, rfl⟩) (all_nil))))))
  (fun a => rfl)
  (all_cons (ctGood codOk (by kernel_rfl) (by (repeat intro _); show _ = _; kernel_rfl) (fun k => by (repeat intro _); show _ = _; kernel_rfl)) (all_cons (ctGood codOk (by kernel_rfl) (by (repeat intro _); show _ = _; kernel_rfl) (fun k => by (repeat intro _); show _ = _; kernel_rfl)) (all_cons (ctGood codOk (by kernel_rfl) (by (repeat intro _); show _ = _; kernel_rfl) (fun k => by (repeat intro _); show _ = _; kernel_rfl)) (all_cons (ctGood codOk (by kernel_rfl) (by (repeat intro _); show _ = _; kernel_rfl) (fun k => by (repeat intro _); show _ = _; kernel_rfl)) (all_nil)))))
  (fun k => by (repeat intro _); show _ = _; kernel_rfl)
noncomputable def S_spec_l1Number (k : Nat) : Summ K TyK := sm cod (ByteArray) [.bo, .bo] [.c (.i .i64), .c (.i .i64)] [] (spec_l1Number) k [.c (.s)] [] (fun r => (r, ())) (fun v1 => v1) true
noncomputable abbrev L_spec_l1Number : List (Nat × Cut K TyK (ByteArray)) := [(3, ct cod [0, 1, 5, 6] [.c (.i .i64), .c (.i .i64), .c (.s), .c (.i .i64)] [] spec_l1Number_l3)]
theorem ok_spec_l1Number (k : Nat) : SummOk Try.prog cod 180 (S_spec_l1Number k) := sumOk codOk Try.f180 (fun k => lookT []) L_spec_l1Number false [.tmp 4] 0 [] mixed Try.func180 (by kernel_rfl) (by kernel_rfl) (by kernel_rfl) (by kernel_rfl)
  (fun k => Known.of tok eok codOk (all_nil))
  (fun k => QuietOk.of (all_nil))
  (fun a => rfl)
  (all_cons (ctGood codOk (by kernel_rfl) (by (repeat intro _); show _ = _; kernel_rfl) (fun k => by (repeat intro _); show _ = _; kernel_rfl)) (all_nil))
  (fun k => by (repeat intro _); show _ = _; kernel_rfl)
noncomputable def S_spec_l2Body (k : Nat) : Summ K TyK := sm cod (ByteArray) [.bo] [.g [.i .i64, .i .i64, .i .i64, .i .i64, .i .i64, .i .i64, .i .i64, .b, .s]] [] (fun k v1 v2 v3 v4 v5 v6 v7 v8 v9 => spec_l2Body k (⟨v1, v2, v3, v4, v5, v6, v7, v8, v9⟩ : DPacket)) k [.c (.s)] [] (fun r => (r, ())) (fun v1 => v1) true
noncomputable abbrev L_spec_l2Body : List (Nat × Cut K TyK (ByteArray)) := [(7, ct cod [1, 3, 4] [.c (.r 0 0), .c (.s), .c (.i .i64)] [.x [.i .i64, .i .i64, .i .i64, .i .i64, .i .i64, .i .i64, .i .i64, .b, .s]] spec_l2Body_l7)]
theorem ok_spec_l2Body (k : Nat) : SummOk Try.prog cod 169 (S_spec_l2Body k) := sumOk codOk Try.f169 (fun k => lookT [(180, S_spec_l1Number k)]) L_spec_l2Body false [.tmp 2] 0 [] mixed Try.func169 (by kernel_rfl) (by kernel_rfl) (by kernel_rfl) (by kernel_rfl)
  (fun k => Known.of tok eok codOk (all_cons (ok_spec_l1Number k) (all_nil)))
  (fun k => QuietOk.of (all_cons (fun h r => ⟨rfl, rfl⟩) (all_nil)))
  (fun a => rfl)
  (all_cons (ctGood codOk (by kernel_rfl) (by (repeat intro _); show _ = _; kernel_rfl) (fun k => by (repeat intro _); show _ = _; kernel_rfl)) (all_nil))
  (fun k => by (repeat intro _); show _ = _; kernel_rfl)
noncomputable def S_spec_Tag (k : Nat) : Summ K TyK := sm cod (ByteArray) [.bo, .bo, .bo] [.c (.s), .c (.s), .c (.i .i64)] [] (spec_Tag) k [.c (.s)] [] (fun r => (r, ())) (fun v1 => v1) true
noncomputable abbrev L_spec_Tag : List (Nat × Cut K TyK (ByteArray)) := [(6, ct cod [2, 7, 8, 9] [.c (.i .i64), .c (.s), .c (.i .u64), .c (.i .i64)] [] spec_Tag_l6),
  (11, ct cod [2, 8, 10, 11] [.c (.i .i64), .c (.i .u64), .c (.s), .c (.i .i64)] [] spec_Tag_l11)]
theorem ok_spec_Tag (k : Nat) : SummOk Try.prog cod 168 (S_spec_Tag k) := sumOk codOk Try.f168 (fun k => lookT [(89, S_spec_l1In k)]) L_spec_Tag false [.tmp 6] 0 [] mixed Try.func168 (by kernel_rfl) (by kernel_rfl) (by kernel_rfl) (by kernel_rfl)
  (fun k => Known.of tok eok codOk (all_cons (ok_spec_l1In k) (all_nil)))
  (fun k => QuietOk.of (all_cons (fun h r => ⟨rfl, rfl⟩) (all_nil)))
  (fun a => rfl)
  (all_cons (ctGood codOk (by kernel_rfl) (by (repeat intro _); show _ = _; kernel_rfl) (fun k => by (repeat intro _); show _ = _; kernel_rfl)) (all_cons (ctGood codOk (by kernel_rfl) (by (repeat intro _); show _ = _; kernel_rfl) (fun k => by (repeat intro _); show _ = _; kernel_rfl)) (all_nil)))
  (fun k => by (repeat intro _); show _ = _; kernel_rfl)
noncomputable def S_spec_FormPacket (k : Nat) : Summ K TyK := sm cod (ByteArray) [.bo, .bo, .bo] [.g [.i .i64, .i .i64, .i .i64, .i .i64, .i .i64, .i .i64, .i .i64, .b, .s], .c (.s), .c (.i .i64)] [] (fun k v1 v2 v3 v4 v5 v6 v7 v8 v9 v10 v11 => spec_FormPacket k (⟨v1, v2, v3, v4, v5, v6, v7, v8, v9⟩ : DPacket) v10 v11) k [.c (.s)] [] (fun r => (r, ())) (fun v1 => v1) true
theorem ok_spec_FormPacket (k : Nat) : SummOk Try.prog cod 140 (S_spec_FormPacket k) := sumOk codOk Try.f140 (fun k => lookT [(53, S_spec_l2Ok k), (89, S_spec_l1In k), (169, S_spec_l2Body k), (168, S_spec_Tag k)]) [] false [.tmp 6] 0 [] mixed Try.func140 (by kernel_rfl) (by kernel_rfl) (by kernel_rfl) (by kernel_rfl)
  (fun k => Known.of tok eok codOk (all_cons (ok_spec_l2Ok k) (all_cons (ok_spec_l1In k) (all_cons (ok_spec_l2Body k) (all_cons (ok_spec_Tag k) (all_nil))))))
  (fun k => QuietOk.of (all_cons (fun h r => ⟨rfl, rfl⟩) (all_cons (fun h r => ⟨rfl, rfl⟩) (all_cons (fun h r => ⟨rfl, rfl⟩) (all_cons (fun h r => ⟨rfl, rfl⟩) (all_nil))))))
  (fun a => rfl)
  (all_nil)
  (fun k => by (repeat intro _); show _ = _; kernel_rfl)
noncomputable def S_spec_l7Tick (k : Nat) : Summ K TyK := sm cod (DWorld) [.mv] [.g [.s, .i .i64, .o 0, .o 1, .s, .o 2, .o 3]] [.l .end, .l .parcel, .l .record, .l .record] (fun k v1 v2 v3 v4 v5 v6 v7 => spec_l7Tick k (⟨v1, v2, v4, v5, v3, v6, v7⟩ : DWorld)) k [.g [.s, .i .i64, .o 4, .o 5, .s, .o 6, .o 7]] [.d, .d, .d, .d, .l .end, .l .parcel, .l .record, .l .record] (fun r => (r.Key, r.Width, (), (), r.Forged, (), (), r.Ends, r.Flight, r.Given, r.Taken, ())) (fun v1 v2 v3 v4 v5 v6 v7 => (⟨v1, v2, v4, v5, v3, v6, v7⟩ : DWorld)) false
noncomputable abbrev L_spec_l7Tick : List (Nat × Cut K TyK (DWorld)) := [(2, ct cod [1, 2, 3] [.c (.r 4 0), .c (.r 5 0), .c (.i .i64)] [.d, .d, .d, .d, .x [.s, .i .i64, .o 6, .o 7, .s, .o 8, .o 9], .x [.s, .i .i64, .o 10, .o 11, .s, .o 12, .o 13], .l .end, .l .parcel, .l .record, .l .record, .l .end, .l .parcel, .l .record, .l .record] spec_l7Tick_l2),
  (7, ct cod [1, 2, 3, 4, 5] [.c (.r 4 0), .c (.r 5 0), .c (.i .i64), .c (.r 6 0), .c (.i .i64)] [.d, .d, .d, .d, .x [.s, .i .i64, .o 7, .o 8, .s, .o 9, .o 10], .x [.s, .i .i64, .o 11, .o 12, .s, .o 13, .o 14], .x [.i .i64, .i .i64, .b, .i .i64, .i .i64, .i .i64, .b, .i .i64, .o 15, .i .i64, .o 16, .s, .o 17, .o 18, .s], .l .end, .l .parcel, .l .record, .l .record, .l .end, .l .parcel, .l .record, .l .record, .d, .d, .d, .l .packet] spec_l7Tick_l7)]
theorem ok_spec_l7Tick (k : Nat) : SummOk Try.prog cod 141 (S_spec_l7Tick k) := sumOk codOk Try.f141 (fun k => lookT [(42, S_spec_EndTick k), (140, S_spec_FormPacket k)]) L_spec_l7Tick false [.cell 2 60] 4 [true, true, true, true] mixed Try.func141 (by kernel_rfl) (by kernel_rfl) (by kernel_rfl) (by kernel_rfl)
  (fun k => Known.of tok eok codOk (all_cons (ok_spec_EndTick k) (all_cons (ok_spec_FormPacket k) (all_nil))))
  (fun k => QuietOk.of (all_cons (fun h r => by cases h) (all_cons (fun h r => ⟨rfl, rfl⟩) (all_nil))))
  (fun a => rfl)
  (all_cons (ctGood codOk (by kernel_rfl) (by (repeat intro _); show _ = _; kernel_rfl) (fun k => by (repeat intro _); show _ = _; kernel_rfl)) (all_cons (ctGood codOk (by kernel_rfl) (by (repeat intro _); show _ = _; kernel_rfl) (fun k => by (repeat intro _); show _ = _; kernel_rfl)) (all_nil)))
  (fun k => by (repeat intro _); show _ = _; kernel_rfl)
noncomputable def S_spec_l7Passes (k : Nat) : Summ K TyK := sm cod (List DL7Count × Bool) [.mv, .mv, .mv] [.c (.o 0), .g [.i .i64, .s, .s], .c (.i .i64)] [.l .l7count] (fun k v1 v2 v3 v4 v5 => spec_l7Passes k v5 (⟨v1, v2, v3⟩ : DParcel) v4) k [.c (.o 1), .c (.b)] [.d, .l .l7count] (fun r => ((), r.2, r.1, ())) (fun v1 v2 => (v2, v1)) false
noncomputable abbrev L_spec_l7Passes : List (Nat × Cut K TyK (List DL7Count × Bool)) := [(2, ct cod [0, 2, 4, 8] [.c (.o 1), .c (.i .i64), .c (.r 2 0), .c (.i .i64)] [.d, .l .l7count, .x [.i .i64, .s, .s]] spec_l7Passes_l2)]
theorem ok_spec_l7Passes (k : Nat) : SummOk Try.prog cod 142 (S_spec_l7Passes k) := sumOk codOk Try.f142 (fun k => lookT []) L_spec_l7Passes false [.tmp 6, .tmp 7] 1 [true] mixed Try.func142 (by kernel_rfl) (by kernel_rfl) (by kernel_rfl) (by kernel_rfl)
  (fun k => Known.of tok eok codOk (all_nil))
  (fun k => QuietOk.of (all_nil))
  (fun a => rfl)
  (all_cons (ctGood codOk (by kernel_rfl) (by (repeat intro _); show _ = _; kernel_rfl) (fun k => by (repeat intro _); show _ = _; kernel_rfl)) (all_nil))
  (fun k => by (repeat intro _); show _ = _; kernel_rfl)
noncomputable def S_spec_l7Without (k : Nat) : Summ K TyK := sm cod (List DParcel) [.bo, .bo] [.c (.l true .parcel), .c (.i .i64)] [] (spec_l7Without) k [.c (.o 0)] [.l .parcel] (fun r => ((), r, ())) (fun v1 => v1) false
theorem ok_spec_l7Without (k : Nat) : SummOk Try.prog cod 144 (S_spec_l7Without k) := sumOk codOk Try.f144 (fun k => lookT []) [] false [.tmp 4] 0 [] mixed Try.func144 (by kernel_rfl) (by kernel_rfl) (by kernel_rfl) (by kernel_rfl)
  (fun k => Known.of tok eok codOk (all_nil))
  (fun k => QuietOk.of (all_nil))
  (fun a => rfl)
  (all_nil)
  (fun k => by (repeat intro _); show _ = _; kernel_rfl)
noncomputable def S_spec_l1Read (k : Nat) : Summ K TyK := sm cod (Int) [.bo] [.c (.s)] [] (spec_l1Read) k [.c (.i .i64)] [] (fun r => (r, ())) (fun v1 => v1) true
noncomputable abbrev L_spec_l1Read : List (Nat × Cut K TyK (Int)) := [(3, ct cod [0, 3, 4] [.c (.s), .c (.i .i64), .c (.i .i64)] [] spec_l1Read_l3)]
theorem ok_spec_l1Read (k : Nat) : SummOk Try.prog cod 153 (S_spec_l1Read k) := sumOk codOk Try.f153 (fun k => lookT []) L_spec_l1Read false [.tmp 2] 0 [] mixed Try.func153 (by kernel_rfl) (by kernel_rfl) (by kernel_rfl) (by kernel_rfl)
  (fun k => Known.of tok eok codOk (all_nil))
  (fun k => QuietOk.of (all_nil))
  (fun a => rfl)
  (all_cons (ctGood codOk (by kernel_rfl) (by (repeat intro _); show _ = _; kernel_rfl) (fun k => by (repeat intro _); show _ = _; kernel_rfl)) (all_nil))
  (fun k => by (repeat intro _); show _ = _; kernel_rfl)
noncomputable def S_spec_ReadPacket (k : Nat) : Summ K TyK := sm cod (DPacket × Bool) [.bo, .bo, .bo] [.c (.s), .c (.s), .c (.i .i64)] [] (spec_ReadPacket) k [.g [.i .i64, .i .i64, .i .i64, .i .i64, .i .i64, .i .i64, .i .i64, .b, .s], .c (.b)] [] (fun r => (r.1.Kind, r.1.From, r.1.Mine, r.1.Yours, r.1.Next, r.1.Mask, r.1.Seq, r.1.Last, r.1.Part, r.2, ())) (fun v1 v2 v3 v4 v5 v6 v7 v8 v9 v10 => ((⟨v1, v2, v3, v4, v5, v6, v7, v8, v9⟩ : DPacket), v10)) true
noncomputable abbrev L_spec_ReadPacket : List (Nat × Cut K TyK (DPacket × Bool)) := [(11, ct cod [0, 1, 2, 6, 9] [.c (.s), .c (.s), .c (.i .i64), .c (.r 0 0), .c (.r 1 0)] [.x [.i .i64, .i .i64, .i .i64, .i .i64, .i .i64, .i .i64, .i .i64, .b, .s], .x [.i .i64, .i .i64, .i .i64, .i .i64, .i .i64, .i .i64, .i .i64, .b, .s]] spec_ReadPacket_l11)]
theorem ok_spec_ReadPacket (k : Nat) : SummOk Try.prog cod 88 (S_spec_ReadPacket k) := sumOk codOk Try.f88 (fun k => lookT [(89, S_spec_l1In k), (153, S_spec_l1Read k), (140, S_spec_FormPacket k)]) L_spec_ReadPacket false [.cell 6 48, .tmp 7] 0 [] mixed Try.func88 (by kernel_rfl) (by kernel_rfl) (by kernel_rfl) (by kernel_rfl)
  (fun k => Known.of tok eok codOk (all_cons (ok_spec_l1In k) (all_cons (ok_spec_l1Read k) (all_cons (ok_spec_FormPacket k) (all_nil)))))
  (fun k => QuietOk.of (all_cons (fun h r => ⟨rfl, rfl⟩) (all_cons (fun h r => ⟨rfl, rfl⟩) (all_cons (fun h r => ⟨rfl, rfl⟩) (all_nil)))))
  (fun a => rfl)
  (all_cons (ctGood codOk (by kernel_rfl) (by (repeat intro _); show _ = _; kernel_rfl) (fun k => by (repeat intro _); show _ = _; kernel_rfl)) (all_nil))
  (fun k => by (repeat intro _); show _ = _; kernel_rfl)
noncomputable def S_spec_l7Bring (k : Nat) : Summ K TyK := sm cod (DWorld) [.mv, .mv] [.g [.s, .i .i64, .o 0, .o 1, .s, .o 2, .o 3], .c (.i .i64)] [.l .end, .l .parcel, .l .record, .l .record] (fun k v1 v2 v3 v4 v5 v6 v7 v8 => spec_l7Bring k (⟨v1, v2, v5, v6, v3, v7, v8⟩ : DWorld) v4) k [.g [.s, .i .i64, .o 4, .o 5, .s, .o 6, .o 7]] [.d, .d, .d, .d, .l .end, .l .parcel, .l .record, .l .record] (fun r => (r.Key, r.Width, (), (), r.Forged, (), (), r.Ends, r.Flight, r.Given, r.Taken, ())) (fun v1 v2 v3 v4 v5 v6 v7 => (⟨v1, v2, v4, v5, v3, v6, v7⟩ : DWorld)) false
noncomputable abbrev L_spec_l7Bring : List (Nat × Cut K TyK (DWorld)) := [(8, ct cod [2, 4, 5, 6] [.c (.r 4 0), .c (.r 5 0), .c (.r 6 0), .c (.r 7 0)] [.d, .d, .d, .d, .x [.s, .i .i64, .o 8, .o 9, .s, .o 10, .o 11], .x [.s, .i .i64, .o 12, .o 13, .s, .o 14, .o 15], .x [.i .i64, .s, .s], .x [.i .i64, .i .i64, .i .i64, .i .i64, .i .i64, .i .i64, .i .i64, .b, .s], .l .end, .l .parcel, .l .record, .l .record, .l .end, .l .parcel, .l .record, .l .record] spec_l7Bring_l8)]
theorem ok_spec_l7Bring (k : Nat) : SummOk Try.prog cod 143 (S_spec_l7Bring k) := sumOk codOk Try.f143 (fun k => lookT [(144, S_spec_l7Without k), (88, S_spec_ReadPacket k), (12, S_spec_EndTake k)]) L_spec_l7Bring false [.cell 4 60] 4 [true, true, true, true] mixed Try.func143 (by kernel_rfl) (by kernel_rfl) (by kernel_rfl) (by kernel_rfl)
  (fun k => Known.of tok eok codOk (all_cons (ok_spec_l7Without k) (all_cons (ok_spec_ReadPacket k) (all_cons (ok_spec_EndTake k) (all_nil)))))
  (fun k => QuietOk.of (all_cons (fun h r => by cases h) (all_cons (fun h r => ⟨rfl, rfl⟩) (all_cons (fun h r => by cases h) (all_nil)))))
  (fun a => rfl)
  (all_cons (ctGood codOk (by kernel_rfl) (by (repeat intro _); show _ = _; kernel_rfl) (fun k => by (repeat intro _); show _ = _; kernel_rfl)) (all_nil))
  (fun k => by (repeat intro _); show _ = _; kernel_rfl)
noncomputable def S_spec_EndFall (k : Nat) : Summ K TyK := sm cod (DEnd) [.bo] [.g [.i .i64, .b, .i .i64, .i .i64, .i .i64, .b, .i .i64, .l true .item, .i .i64, .l true .held, .s, .l true .str]] [] (fun k v1 v2 v3 v4 v5 v6 v7 v8 v9 v10 v11 v12 => spec_EndFall k (⟨v1, v2, v3, v4, v5, v6, (⟨v7, v8⟩ : DSend), (⟨v9, v10, v11, v12⟩ : DTake)⟩ : DEnd)) k [.g [.i .i64, .b, .i .i64, .i .i64, .i .i64, .b, .i .i64, .o 0, .i .i64, .o 1, .s, .o 2]] [.l .item, .l .held, .l .str] (fun r => (r.Number, r.Up, r.Life, r.Peer, r.Since, r.Owes, r.Send.Base, (), r.Take.Next, (), r.Take.Open, (), r.Send.Items, r.Take.Held, r.Take.Ready, ())) (fun v1 v2 v3 v4 v5 v6 v7 v8 v9 v10 v11 v12 => (⟨v1, v2, v3, v4, v5, v6, (⟨v7, v10⟩ : DSend), (⟨v8, v11, v9, v12⟩ : DTake)⟩ : DEnd)) false
theorem ok_spec_EndFall (k : Nat) : SummOk Try.prog cod 170 (S_spec_EndFall k) := sumOk codOk Try.f170 (fun k => lookT [(45, S_spec_ValidEnd k)]) [] false [.cell 2 42] 0 [] mixed Try.func170 (by kernel_rfl) (by kernel_rfl) (by kernel_rfl) (by kernel_rfl)
  (fun k => Known.of tok eok codOk (all_cons (ok_spec_ValidEnd k) (all_nil)))
  (fun k => QuietOk.of (all_cons (fun h r => ⟨rfl, rfl⟩) (all_nil)))
  (fun a => rfl)
  (all_nil)
  (fun k => by (repeat intro _); show _ = _; kernel_rfl)
noncomputable def S_spec_EndRise (k : Nat) : Summ K TyK := sm cod (DEnd) [.bo] [.g [.i .i64, .b, .i .i64, .i .i64, .i .i64, .b, .i .i64, .l true .item, .i .i64, .l true .held, .s, .l true .str]] [] (fun k v1 v2 v3 v4 v5 v6 v7 v8 v9 v10 v11 v12 => spec_EndRise k (⟨v1, v2, v3, v4, v5, v6, (⟨v7, v8⟩ : DSend), (⟨v9, v10, v11, v12⟩ : DTake)⟩ : DEnd)) k [.g [.i .i64, .b, .i .i64, .i .i64, .i .i64, .b, .i .i64, .o 0, .i .i64, .o 1, .s, .o 2]] [.l .item, .l .held, .l .str] (fun r => (r.Number, r.Up, r.Life, r.Peer, r.Since, r.Owes, r.Send.Base, (), r.Take.Next, (), r.Take.Open, (), r.Send.Items, r.Take.Held, r.Take.Ready, ())) (fun v1 v2 v3 v4 v5 v6 v7 v8 v9 v10 v11 v12 => (⟨v1, v2, v3, v4, v5, v6, (⟨v7, v10⟩ : DSend), (⟨v8, v11, v9, v12⟩ : DTake)⟩ : DEnd)) false
theorem ok_spec_EndRise (k : Nat) : SummOk Try.prog cod 171 (S_spec_EndRise k) := sumOk codOk Try.f171 (fun k => lookT [(45, S_spec_ValidEnd k), (52, S_spec_l6Copy k)]) [] false [.cell 2 42] 0 [] mixed Try.func171 (by kernel_rfl) (by kernel_rfl) (by kernel_rfl) (by kernel_rfl)
  (fun k => Known.of tok eok codOk (all_cons (ok_spec_ValidEnd k) (all_cons (ok_spec_l6Copy k) (all_nil))))
  (fun k => QuietOk.of (all_cons (fun h r => ⟨rfl, rfl⟩) (all_cons (fun h r => by cases h) (all_nil))))
  (fun a => rfl)
  (all_nil)
  (fun k => by (repeat intro _); show _ = _; kernel_rfl)
noncomputable def S_spec_Cut (k : Nat) : Summ K TyK := sm cod (List DPart) [.bo] [.c (.s)] [] (spec_Cut) k [.c (.o 0)] [.l .part] (fun r => ((), r, ())) (fun v1 => v1) false
noncomputable abbrev L_spec_Cut : List (Nat × Cut K TyK (List DPart)) := [(4, ct cod [0, 3] [.c (.s), .c (.o 0)] [.l .part] spec_Cut_l4)]
theorem ok_spec_Cut (k : Nat) : SummOk Try.prog cod 156 (S_spec_Cut k) := sumOk codOk Try.f156 (fun k => lookT []) L_spec_Cut false [.tmp 2] 0 [] mixed Try.func156 (by kernel_rfl) (by kernel_rfl) (by kernel_rfl) (by kernel_rfl)
  (fun k => Known.of tok eok codOk (all_nil))
  (fun k => QuietOk.of (all_nil))
  (fun a => rfl)
  (all_cons (ctGood codOk (by kernel_rfl) (by (repeat intro _); show _ = _; kernel_rfl) (fun k => by (repeat intro _); show _ = _; kernel_rfl)) (all_nil))
  (fun k => by (repeat intro _); show _ = _; kernel_rfl)
noncomputable def S_spec_SendPush (k : Nat) : Summ K TyK := sm cod (DSend × Int) [.bo, .bo] [.g [.i .i64, .l true .item], .c (.s)] [] (fun k v1 v2 v3 => spec_SendPush k (⟨v1, v2⟩ : DSend) v3) k [.g [.i .i64, .o 0], .c (.i .i64)] [.l .item] (fun r => (r.1.Base, (), r.2, r.1.Items, ())) (fun v1 v2 v3 => ((⟨v1, v3⟩ : DSend), v2)) false
noncomputable abbrev L_spec_SendPush : List (Nat × Cut K TyK (DSend × Int)) := [(9, ct cod [4, 6, 8, 9] [.c (.r 0 0), .c (.o 1), .c (.r 2 0), .c (.i .i64)] [.x [.i .i64, .o 3], .l .part, .x [.i .i64, .o 4], .l .item, .l .item] spec_SendPush_l9)]
theorem ok_spec_SendPush (k : Nat) : SummOk Try.prog cod 103 (S_spec_SendPush k) := sumOk codOk Try.f103 (fun k => lookT [(105, S_spec_ValidSend k), (156, S_spec_Cut k), (118, S_spec_l4Copy k)]) L_spec_SendPush false [.cell 4 37, .tmp 5] 0 [] mixed Try.func103 (by kernel_rfl) (by kernel_rfl) (by kernel_rfl) (by kernel_rfl)
  (fun k => Known.of tok eok codOk (all_cons (ok_spec_ValidSend k) (all_cons (ok_spec_Cut k) (all_cons (ok_spec_l4Copy k) (all_nil)))))
  (fun k => QuietOk.of (all_cons (fun h r => ⟨rfl, rfl⟩) (all_cons (fun h r => by cases h) (all_cons (fun h r => by cases h) (all_nil)))))
  (fun a => rfl)
  (all_cons (ctGood codOk (by kernel_rfl) (by (repeat intro _); show _ = _; kernel_rfl) (fun k => by (repeat intro _); show _ = _; kernel_rfl)) (all_nil))
  (fun k => by (repeat intro _); show _ = _; kernel_rfl)
noncomputable def S_spec_EndPush (k : Nat) : Summ K TyK := sm cod (DActed) [.bo, .bo] [.g [.i .i64, .b, .i .i64, .i .i64, .i .i64, .b, .i .i64, .l true .item, .i .i64, .l true .held, .s, .l true .str], .c (.s)] [] (fun k v1 v2 v3 v4 v5 v6 v7 v8 v9 v10 v11 v12 v13 => spec_EndPush k (⟨v1, v2, v3, v4, v5, v6, (⟨v7, v8⟩ : DSend), (⟨v9, v10, v11, v12⟩ : DTake)⟩ : DEnd) v13) k [.g [.i .i64, .i .i64, .b, .i .i64, .i .i64, .i .i64, .b, .i .i64, .o 0, .i .i64, .o 1, .s, .o 2, .o 3, .s]] [.l .item, .l .held, .l .str, .l .packet] (fun r => (r.Code, r.End.Number, r.End.Up, r.End.Life, r.End.Peer, r.End.Since, r.End.Owes, r.End.Send.Base, (), r.End.Take.Next, (), r.End.Take.Open, (), (), r.Text, r.End.Send.Items, r.End.Take.Held, r.End.Take.Ready, r.Out, ())) (fun v1 v2 v3 v4 v5 v6 v7 v8 v9 v10 v11 v12 v13 v14 v15 => (⟨v1, (⟨v2, v3, v4, v5, v6, v7, (⟨v8, v12⟩ : DSend), (⟨v9, v13, v10, v14⟩ : DTake)⟩ : DEnd), v15, v11⟩ : DActed)) false
theorem ok_spec_EndPush (k : Nat) : SummOk Try.prog cod 43 (S_spec_EndPush k) := sumOk codOk Try.f43 (fun k => lookT [(45, S_spec_ValidEnd k), (103, S_spec_SendPush k), (52, S_spec_l6Copy k)]) [] false [.cell 4 45] 0 [] mixed Try.func43 (by kernel_rfl) (by kernel_rfl) (by kernel_rfl) (by kernel_rfl)
  (fun k => Known.of tok eok codOk (all_cons (ok_spec_ValidEnd k) (all_cons (ok_spec_SendPush k) (all_cons (ok_spec_l6Copy k) (all_nil)))))
  (fun k => QuietOk.of (all_cons (fun h r => ⟨rfl, rfl⟩) (all_cons (fun h r => by cases h) (all_cons (fun h r => by cases h) (all_nil)))))
  (fun a => rfl)
  (all_nil)
  (fun k => by (repeat intro _); show _ = _; kernel_rfl)
noncomputable def S_spec_TakePull (k : Nat) : Summ K TyK := sm cod (DTake × ByteArray × Bool) [.bo] [.g [.i .i64, .l true .held, .s, .l true .str]] [] (fun k v1 v2 v3 v4 => spec_TakePull k (⟨v1, v2, v3, v4⟩ : DTake)) k [.g [.i .i64, .o 0, .s, .o 1], .c (.s), .c (.b)] [.l .held, .l .str] (fun r => (r.1.Next, (), r.1.Open, (), r.2.1, r.2.2, r.1.Held, r.1.Ready, ())) (fun v1 v2 v3 v4 v5 v6 => ((⟨v1, v5, v2, v6⟩ : DTake), v3, v4)) false
theorem ok_spec_TakePull (k : Nat) : SummOk Try.prog cod 104 (S_spec_TakePull k) := sumOk codOk Try.f104 (fun k => lookT [(106, S_spec_ValidTake k), (119, S_spec_l5Copy k), (122, S_spec_l5In k)]) [] false [.cell 2 40, .tmp 3, .tmp 4] 0 [] mixed Try.func104 (by kernel_rfl) (by kernel_rfl) (by kernel_rfl) (by kernel_rfl)
  (fun k => Known.of tok eok codOk (all_cons (ok_spec_ValidTake k) (all_cons (ok_spec_l5Copy k) (all_cons (ok_spec_l5In k) (all_nil)))))
  (fun k => QuietOk.of (all_cons (fun h r => ⟨rfl, rfl⟩) (all_cons (fun h r => by cases h) (all_cons (fun h r => by cases h) (all_nil)))))
  (fun a => rfl)
  (all_nil)
  (fun k => by (repeat intro _); show _ = _; kernel_rfl)
noncomputable def S_spec_EndPull (k : Nat) : Summ K TyK := sm cod (DActed) [.bo] [.g [.i .i64, .b, .i .i64, .i .i64, .i .i64, .b, .i .i64, .l true .item, .i .i64, .l true .held, .s, .l true .str]] [] (fun k v1 v2 v3 v4 v5 v6 v7 v8 v9 v10 v11 v12 => spec_EndPull k (⟨v1, v2, v3, v4, v5, v6, (⟨v7, v8⟩ : DSend), (⟨v9, v10, v11, v12⟩ : DTake)⟩ : DEnd)) k [.g [.i .i64, .i .i64, .b, .i .i64, .i .i64, .i .i64, .b, .i .i64, .o 0, .i .i64, .o 1, .s, .o 2, .o 3, .s]] [.l .item, .l .held, .l .str, .l .packet] (fun r => (r.Code, r.End.Number, r.End.Up, r.End.Life, r.End.Peer, r.End.Since, r.End.Owes, r.End.Send.Base, (), r.End.Take.Next, (), r.End.Take.Open, (), (), r.Text, r.End.Send.Items, r.End.Take.Held, r.End.Take.Ready, r.Out, ())) (fun v1 v2 v3 v4 v5 v6 v7 v8 v9 v10 v11 v12 v13 v14 v15 => (⟨v1, (⟨v2, v3, v4, v5, v6, v7, (⟨v8, v12⟩ : DSend), (⟨v9, v13, v10, v14⟩ : DTake)⟩ : DEnd), v15, v11⟩ : DActed)) false
theorem ok_spec_EndPull (k : Nat) : SummOk Try.prog cod 44 (S_spec_EndPull k) := sumOk codOk Try.f44 (fun k => lookT [(45, S_spec_ValidEnd k), (104, S_spec_TakePull k), (52, S_spec_l6Copy k)]) [] false [.cell 2 45] 0 [] mixed Try.func44 (by kernel_rfl) (by kernel_rfl) (by kernel_rfl) (by kernel_rfl)
  (fun k => Known.of tok eok codOk (all_cons (ok_spec_ValidEnd k) (all_cons (ok_spec_TakePull k) (all_cons (ok_spec_l6Copy k) (all_nil)))))
  (fun k => QuietOk.of (all_cons (fun h r => ⟨rfl, rfl⟩) (all_cons (fun h r => by cases h) (all_cons (fun h r => by cases h) (all_nil)))))
  (fun a => rfl)
  (all_nil)
  (fun k => by (repeat intro _); show _ = _; kernel_rfl)
noncomputable def S_spec_l7End (k : Nat) : Summ K TyK := sm cod (DWorld) [.mv, .mv] [.g [.s, .i .i64, .o 0, .o 1, .s, .o 2, .o 3], .g [.i .i64, .i .i64, .i .i64, .i .i64, .s]] [.l .end, .l .parcel, .l .record, .l .record] (fun k v1 v2 v3 v4 v5 v6 v7 v8 v9 v10 v11 v12 => spec_l7End k (⟨v1, v2, v9, v10, v3, v11, v12⟩ : DWorld) (⟨v4, v5, v6, v7, v8⟩ : DEvent)) k [.g [.s, .i .i64, .o 4, .o 5, .s, .o 6, .o 7]] [.d, .d, .d, .d, .l .end, .l .parcel, .l .record, .l .record] (fun r => (r.Key, r.Width, (), (), r.Forged, (), (), r.Ends, r.Flight, r.Given, r.Taken, ())) (fun v1 v2 v3 v4 v5 v6 v7 => (⟨v1, v2, v4, v5, v3, v6, v7⟩ : DWorld)) false
noncomputable abbrev L_spec_l7End : List (Nat × Cut K TyK (DWorld)) := [(18, ct cod [2, 4] [.c (.r 4 0), .c (.r 5 0)] [.d, .d, .d, .d, .x [.s, .i .i64, .o 6, .o 7, .s, .o 8, .o 9], .x [.s, .i .i64, .o 10, .o 11, .s, .o 12, .o 13], .l .end, .l .parcel, .l .record, .l .record, .l .end, .l .parcel, .l .record, .l .record] spec_l7End_l18)]
theorem ok_spec_l7End (k : Nat) : SummOk Try.prog cod 145 (S_spec_l7End k) := sumOk codOk Try.f145 (fun k => lookT [(170, S_spec_EndFall k), (171, S_spec_EndRise k), (43, S_spec_EndPush k), (44, S_spec_EndPull k)]) L_spec_l7End false [.cell 4 60] 4 [true, true, true, true] mixed Try.func145 (by kernel_rfl) (by kernel_rfl) (by kernel_rfl) (by kernel_rfl)
  (fun k => Known.of tok eok codOk (all_cons (ok_spec_EndFall k) (all_cons (ok_spec_EndRise k) (all_cons (ok_spec_EndPush k) (all_cons (ok_spec_EndPull k) (all_nil))))))
  (fun k => QuietOk.of (all_cons (fun h r => by cases h) (all_cons (fun h r => by cases h) (all_cons (fun h r => by cases h) (all_cons (fun h r => by cases h) (all_nil))))))
  (fun a => rfl)
  (all_cons (ctGood codOk (by kernel_rfl) (by (repeat intro _); show _ = _; kernel_rfl) (fun k => by (repeat intro _); show _ = _; kernel_rfl)) (all_nil))
  (fun k => by (repeat intro _); show _ = _; kernel_rfl)
noncomputable def S_spec_Calm (k : Nat) : Summ K TyK := sm cod (DWorld) [.bo, .bo, .bo] [.g [.s, .i .i64, .l true .end, .l true .parcel, .s, .l true .record, .l true .record], .c (.i .i64), .c (.i .i64)] [] (fun k v1 v2 v3 v4 v5 v6 v7 v8 v9 => spec_Calm k (⟨v1, v2, v3, v4, v5, v6, v7⟩ : DWorld) v8 v9) k [.g [.s, .i .i64, .o 0, .o 1, .s, .o 2, .o 3]] [.l .end, .l .parcel, .l .record, .l .record] (fun r => (r.Key, r.Width, (), (), r.Forged, (), (), r.Ends, r.Flight, r.Given, r.Taken, ())) (fun v1 v2 v3 v4 v5 v6 v7 => (⟨v1, v2, v4, v5, v3, v6, v7⟩ : DWorld)) false
noncomputable abbrev L_spec_Calm : List (Nat × Cut K TyK (DWorld)) := [(6, ct cod [1, 2, 6, 7, 8, 9] [.c (.i .i64), .c (.i .i64), .c (.r 0 0), .c (.r 1 0), .c (.o 2), .c (.i .i64)] [.x [.s, .i .i64, .o 3, .o 4, .s, .o 5, .o 6], .x [.s, .i .i64, .o 7, .o 8, .s, .o 9, .o 10], .l .l7count, .l .end, .l .parcel, .l .record, .l .record, .l .end, .l .parcel, .l .record, .l .record] spec_Calm_l6),
  (9, ct cod [1, 2, 6, 7, 8, 9] [.c (.i .i64), .c (.i .i64), .c (.r 0 0), .c (.r 1 0), .c (.o 2), .c (.i .i64)] [.x [.s, .i .i64, .o 3, .o 4, .s, .o 5, .o 6], .x [.s, .i .i64, .o 7, .o 8, .s, .o 9, .o 10], .l .l7count, .l .end, .l .parcel, .l .record, .l .record, .l .end, .l .parcel, .l .record, .l .record] spec_Calm_l9),
  (16, ct cod [1, 2, 6, 7, 8, 9, 12] [.c (.i .i64), .c (.i .i64), .c (.r 0 0), .c (.r 1 0), .c (.o 2), .c (.i .i64), .c (.i .i64)] [.x [.s, .i .i64, .o 3, .o 4, .s, .o 5, .o 6], .x [.s, .i .i64, .o 7, .o 8, .s, .o 9, .o 10], .l .l7count, .l .end, .l .parcel, .l .record, .l .record, .l .end, .l .parcel, .l .record, .l .record] spec_Calm_l16),
  (19, ct cod [1, 2, 6, 7, 8, 9, 12, 13] [.c (.i .i64), .c (.i .i64), .c (.r 0 0), .c (.r 1 0), .c (.o 2), .c (.i .i64), .c (.i .i64), .c (.i .i64)] [.x [.s, .i .i64, .o 3, .o 4, .s, .o 5, .o 6], .x [.s, .i .i64, .o 7, .o 8, .s, .o 9, .o 10], .l .l7count, .l .end, .l .parcel, .l .record, .l .record, .l .end, .l .parcel, .l .record, .l .record] spec_Calm_l19)]
theorem ok_spec_Calm (k : Nat) : SummOk Try.prog cod 72 (S_spec_Calm k) := sumOk codOk Try.f72 (fun k => lookT [(34, S_spec_ValidWorld k), (89, S_spec_l1In k), (85, S_spec_l7Copy k), (141, S_spec_l7Tick k), (142, S_spec_l7Passes k), (143, S_spec_l7Bring k), (144, S_spec_l7Without k), (145, S_spec_l7End k)]) L_spec_Calm false [.cell 6 60] 0 [] mixed Try.func72 (by kernel_rfl) (by kernel_rfl) (by kernel_rfl) (by kernel_rfl)
  (fun k => Known.of tok eok codOk (all_cons (ok_spec_ValidWorld k) (all_cons (ok_spec_l1In k) (all_cons (ok_spec_l7Copy k) (all_cons (ok_spec_l7Tick k) (all_cons (ok_spec_l7Passes k) (all_cons (ok_spec_l7Bring k) (all_cons (ok_spec_l7Without k) (all_cons (ok_spec_l7End k) (all_nil))))))))))
  (fun k => QuietOk.of (all_cons (fun h r => ⟨rfl, rfl⟩) (all_cons (fun h r => ⟨rfl, rfl⟩) (all_cons (fun h r => by cases h) (all_cons (fun h r => by cases h) (all_cons (fun h r => by cases h) (all_cons (fun h r => by cases h) (all_cons (fun h r => by cases h) (all_cons (fun h r => by cases h) (all_nil))))))))))
  (fun a => rfl)
  (all_cons (ctGood codOk (by kernel_rfl) (by (repeat intro _); show _ = _; kernel_rfl) (fun k => by (repeat intro _); show _ = _; kernel_rfl)) (all_cons (ctGood codOk (by kernel_rfl) (by (repeat intro _); show _ = _; kernel_rfl) (fun k => by (repeat intro _); show _ = _; kernel_rfl)) (all_cons (ctGood codOk (by kernel_rfl) (by (repeat intro _); show _ = _; kernel_rfl) (fun k => by (repeat intro _); show _ = _; kernel_rfl)) (all_cons (ctGood codOk (by kernel_rfl) (by (repeat intro _); show _ = _; kernel_rfl) (fun k => by (repeat intro _); show _ = _; kernel_rfl)) (all_nil)))))
  (fun k => by (repeat intro _); show _ = _; kernel_rfl)
noncomputable def S_spec_l1Message (k : Nat) : Summ K TyK := sm cod (ByteArray × DL1Rd) [.bo] [.c (.r 0 0)] [.x [.l false .byte, .i .i64]] (fun k v1 v2 => spec_l1Message k (⟨v1, v2⟩ : DL1Rd)) k [.c (.s)] [.x [.l false .byte, .i .i64]] (fun r => (r.1, r.2.b, r.2.p, ())) (fun v1 v2 v3 => (v1, (⟨v2, v3⟩ : DL1Rd))) false
noncomputable abbrev L_spec_l1Message : List (Nat × Cut K TyK (ByteArray × DL1Rd)) := [(12, ct cod [0, 3, 4] [.c (.r 0 0), .c (.s), .c (.i .i64)] [.x [.l false .byte, .i .i64]] spec_l1Message_l12)]
theorem ok_spec_l1Message (k : Nat) : SummOk Try.prog cod 95 (S_spec_l1Message k) := sumOk codOk Try.f95 (fun k => lookT [(73, S_spec_l1Rd_pick k), (94, S_spec_l1Many k)]) L_spec_l1Message false [.tmp 2] 1 [false] mixed Try.func95 (by kernel_rfl) (by kernel_rfl) (by kernel_rfl) (by kernel_rfl)
  (fun k => Known.of tok eok codOk (all_cons (ok_spec_l1Rd_pick k) (all_cons (ok_spec_l1Many k) (all_nil))))
  (fun k => QuietOk.of (all_cons (fun h r => by cases h) (all_cons (fun h r => ⟨rfl, rfl⟩) (all_nil))))
  (fun a => rfl)
  (all_cons (ctGood codOk (by kernel_rfl) (by (repeat intro _); show _ = _; kernel_rfl) (fun k => by (repeat intro _); show _ = _; kernel_rfl)) (all_nil))
  (fun k => by (repeat intro _); show _ = _; kernel_rfl)
noncomputable def S_spec_l7Event (k : Nat) : Summ K TyK := sm cod (DEvent × DL1Rd) [.bo] [.c (.r 0 0)] [.x [.l false .byte, .i .i64]] (fun k v1 v2 => spec_l7Event k (⟨v1, v2⟩ : DL1Rd)) k [.g [.i .i64, .i .i64, .i .i64, .i .i64, .s]] [.x [.l false .byte, .i .i64]] (fun r => (r.1.Kind, r.1.A, r.1.B, r.1.C, r.1.Text, r.2.b, r.2.p, ())) (fun v1 v2 v3 v4 v5 v6 v7 => ((⟨v1, v2, v3, v4, v5⟩ : DEvent), (⟨v6, v7⟩ : DL1Rd))) false
noncomputable abbrev L_spec_l7Event : List (Nat × Cut K TyK (DEvent × DL1Rd)) := [(5, ct cod [0, 2, 3, 4] [.c (.r 0 0), .c (.r 1 0), .c (.i .i64), .c (.i .i64)] [.x [.l false .byte, .i .i64], .x [.i .i64, .i .i64, .i .i64, .i .i64, .s]] spec_l7Event_l5),
  (17, ct cod [2, 4] [.c (.r 1 0), .c (.i .i64)] [.x [.l false .byte, .i .i64], .x [.i .i64, .i .i64, .i .i64, .i .i64, .s]] spec_l7Event_l17),
  (18, ct cod [0, 2, 4, 5, 35] [.c (.r 0 0), .c (.r 1 0), .c (.i .i64), .c (.i .i64), .c (.i .i64)] [.x [.l false .byte, .i .i64], .x [.i .i64, .i .i64, .i .i64, .i .i64, .s]] spec_l7Event_l18),
  (20, ct cod [2, 4] [.c (.r 1 0), .c (.i .i64)] [.x [.l false .byte, .i .i64], .x [.i .i64, .i .i64, .i .i64, .i .i64, .s]] spec_l7Event_l20),
  (21, ct cod [0, 2, 4, 5, 35] [.c (.r 0 0), .c (.r 1 0), .c (.i .i64), .c (.i .i64), .c (.i .i64)] [.x [.l false .byte, .i .i64], .x [.i .i64, .i .i64, .i .i64, .i .i64, .s]] spec_l7Event_l21)]
theorem ok_spec_l7Event (k : Nat) : SummOk Try.prog cod 87 (S_spec_l7Event k) := sumOk codOk Try.f87 (fun k => lookT [(73, S_spec_l1Rd_pick k), (95, S_spec_l1Message k)]) L_spec_l7Event false [.cell 2 71] 1 [false] mixed Try.func87 (by kernel_rfl) (by kernel_rfl) (by kernel_rfl) (by kernel_rfl)
  (fun k => Known.of tok eok codOk (all_cons (ok_spec_l1Rd_pick k) (all_cons (ok_spec_l1Message k) (all_nil))))
  (fun k => QuietOk.of (all_cons (fun h r => by cases h) (all_cons (fun h r => by cases h) (all_nil))))
  (fun a => rfl)
  (all_cons (ctGood codOk (by kernel_rfl) (by (repeat intro _); show _ = _; kernel_rfl) (fun k => by (repeat intro _); show _ = _; kernel_rfl)) (all_cons (ctGood codOk (by kernel_rfl) (by (repeat intro _); show _ = _; kernel_rfl) (fun k => by (repeat intro _); show _ = _; kernel_rfl)) (all_cons (ctGood codOk (by kernel_rfl) (by (repeat intro _); show _ = _; kernel_rfl) (fun k => by (repeat intro _); show _ = _; kernel_rfl)) (all_cons (ctGood codOk (by kernel_rfl) (by (repeat intro _); show _ = _; kernel_rfl) (fun k => by (repeat intro _); show _ = _; kernel_rfl)) (all_cons (ctGood codOk (by kernel_rfl) (by (repeat intro _); show _ = _; kernel_rfl) (fun k => by (repeat intro _); show _ = _; kernel_rfl)) (all_nil))))))
  (fun k => by (repeat intro _); show _ = _; kernel_rfl)
noncomputable def S_spec_l7Parcel (k : Nat) : Summ K TyK := sm cod (DWorld) [.mv, .mv] [.g [.s, .i .i64, .o 0, .o 1, .s, .o 2, .o 3], .g [.i .i64, .i .i64, .i .i64, .i .i64, .s]] [.l .end, .l .parcel, .l .record, .l .record] (fun k v1 v2 v3 v4 v5 v6 v7 v8 v9 v10 v11 v12 => spec_l7Parcel k (⟨v1, v2, v9, v10, v3, v11, v12⟩ : DWorld) (⟨v4, v5, v6, v7, v8⟩ : DEvent)) k [.g [.s, .i .i64, .o 4, .o 5, .s, .o 6, .o 7]] [.d, .d, .d, .d, .l .end, .l .parcel, .l .record, .l .record] (fun r => (r.Key, r.Width, (), (), r.Forged, (), (), r.Ends, r.Flight, r.Given, r.Taken, ())) (fun v1 v2 v3 v4 v5 v6 v7 => (⟨v1, v2, v4, v5, v3, v6, v7⟩ : DWorld)) false
noncomputable abbrev L_spec_l7Parcel : List (Nat × Cut K TyK (DWorld)) := [(11, ct cod [2, 4] [.c (.r 4 0), .c (.r 5 0)] [.d, .d, .d, .d, .x [.s, .i .i64, .o 6, .o 7, .s, .o 8, .o 9], .x [.s, .i .i64, .o 10, .o 11, .s, .o 12, .o 13], .l .end, .l .parcel, .l .record, .l .record, .l .end, .l .parcel, .l .record, .l .record] spec_l7Parcel_l11),
  (22, ct cod [2, 3, 4, 5] [.c (.r 4 0), .c (.r 5 0), .c (.r 6 0), .c (.r 7 0)] [.d, .d, .d, .d, .x [.s, .i .i64, .o 8, .o 9, .s, .o 10, .o 11], .x [.i .i64, .i .i64, .i .i64, .i .i64, .s], .x [.s, .i .i64, .o 12, .o 13, .s, .o 14, .o 15], .x [.i .i64, .s, .s], .l .end, .l .parcel, .l .record, .l .record, .l .end, .l .parcel, .l .record, .l .record] spec_l7Parcel_l22)]
theorem ok_spec_l7Parcel (k : Nat) : SummOk Try.prog cod 152 (S_spec_l7Parcel k) := sumOk codOk Try.f152 (fun k => lookT [(143, S_spec_l7Bring k), (144, S_spec_l7Without k)]) L_spec_l7Parcel false [.cell 4 60] 4 [true, true, true, true] mixed Try.func152 (by kernel_rfl) (by kernel_rfl) (by kernel_rfl) (by kernel_rfl)
  (fun k => Known.of tok eok codOk (all_cons (ok_spec_l7Bring k) (all_cons (ok_spec_l7Without k) (all_nil))))
  (fun k => QuietOk.of (all_cons (fun h r => by cases h) (all_cons (fun h r => by cases h) (all_nil))))
  (fun a => rfl)
  (all_cons (ctGood codOk (by kernel_rfl) (by (repeat intro _); show _ = _; kernel_rfl) (fun k => by (repeat intro _); show _ = _; kernel_rfl)) (all_cons (ctGood codOk (by kernel_rfl) (by (repeat intro _); show _ = _; kernel_rfl) (fun k => by (repeat intro _); show _ = _; kernel_rfl)) (all_nil)))
  (fun k => by (repeat intro _); show _ = _; kernel_rfl)
noncomputable def S_spec_l7Do (k : Nat) : Summ K TyK := sm cod (DWorld) [.mv, .mv] [.g [.s, .i .i64, .o 0, .o 1, .s, .o 2, .o 3], .g [.i .i64, .i .i64, .i .i64, .i .i64, .s]] [.l .end, .l .parcel, .l .record, .l .record] (fun k v1 v2 v3 v4 v5 v6 v7 v8 v9 v10 v11 v12 => spec_l7Do k (⟨v1, v2, v9, v10, v3, v11, v12⟩ : DWorld) (⟨v4, v5, v6, v7, v8⟩ : DEvent)) k [.g [.s, .i .i64, .o 4, .o 5, .s, .o 6, .o 7]] [.d, .d, .d, .d, .l .end, .l .parcel, .l .record, .l .record] (fun r => (r.Key, r.Width, (), (), r.Forged, (), (), r.Ends, r.Flight, r.Given, r.Taken, ())) (fun v1 v2 v3 v4 v5 v6 v7 => (⟨v1, v2, v4, v5, v3, v6, v7⟩ : DWorld)) false
theorem ok_spec_l7Do (k : Nat) : SummOk Try.prog cod 86 (S_spec_l7Do k) := sumOk codOk Try.f86 (fun k => lookT [(141, S_spec_l7Tick k), (89, S_spec_l1In k), (152, S_spec_l7Parcel k), (145, S_spec_l7End k)]) [] false [.cell 4 60] 4 [true, true, true, true] mixed Try.func86 (by kernel_rfl) (by kernel_rfl) (by kernel_rfl) (by kernel_rfl)
  (fun k => Known.of tok eok codOk (all_cons (ok_spec_l7Tick k) (all_cons (ok_spec_l1In k) (all_cons (ok_spec_l7Parcel k) (all_cons (ok_spec_l7End k) (all_nil))))))
  (fun k => QuietOk.of (all_cons (fun h r => by cases h) (all_cons (fun h r => ⟨rfl, rfl⟩) (all_cons (fun h r => by cases h) (all_cons (fun h r => by cases h) (all_nil))))))
  (fun a => rfl)
  (all_nil)
  (fun k => by (repeat intro _); show _ = _; kernel_rfl)
noncomputable def S_spec_l7Reached (k : Nat) : Summ K TyK := sm cod (DWorld × DL1Rd) [.bo] [.c (.r 0 0)] [.x [.l false .byte, .i .i64]] (fun k v1 v2 => spec_l7Reached k (⟨v1, v2⟩ : DL1Rd)) k [.g [.s, .i .i64, .o 1, .o 2, .s, .o 3, .o 4]] [.x [.l false .byte, .i .i64], .l .end, .l .parcel, .l .record, .l .record] (fun r => (r.1.Key, r.1.Width, (), (), r.1.Forged, (), (), r.2.b, r.2.p, r.1.Ends, r.1.Flight, r.1.Given, r.1.Taken, ())) (fun v1 v2 v3 v4 v5 v6 v7 v8 v9 => ((⟨v1, v2, v6, v7, v3, v8, v9⟩ : DWorld), (⟨v4, v5⟩ : DL1Rd))) false
noncomputable abbrev L_spec_l7Reached : List (Nat × Cut K TyK (DWorld × DL1Rd)) := [(4, ct cod [0, 2, 3] [.c (.r 0 0), .c (.r 1 0), .c (.r 2 0)] [.x [.l false .byte, .i .i64], .x [.s, .i .i64, .o 3, .o 4, .s, .o 5, .o 6], .x [.s, .i .i64, .o 7, .o 8, .s, .o 9, .o 10], .l .end, .l .parcel, .l .record, .l .record, .l .end, .l .parcel, .l .record, .l .record] spec_l7Reached_l4),
  (6, ct cod [0, 2, 3, 4, 5] [.c (.r 0 0), .c (.r 1 0), .c (.r 2 0), .c (.i .i64), .c (.i .i64)] [.x [.l false .byte, .i .i64], .x [.s, .i .i64, .o 3, .o 4, .s, .o 5, .o 6], .x [.s, .i .i64, .o 7, .o 8, .s, .o 9, .o 10], .l .end, .l .parcel, .l .record, .l .record, .l .end, .l .parcel, .l .record, .l .record] spec_l7Reached_l6),
  (12, ct cod [0, 2, 3, 4, 5, 6] [.c (.r 0 0), .c (.r 1 0), .c (.r 2 0), .c (.i .i64), .c (.i .i64), .c (.i .i64)] [.x [.l false .byte, .i .i64], .x [.s, .i .i64, .o 3, .o 4, .s, .o 5, .o 6], .x [.s, .i .i64, .o 7, .o 8, .s, .o 9, .o 10], .l .end, .l .parcel, .l .record, .l .record, .l .end, .l .parcel, .l .record, .l .record] spec_l7Reached_l12),
  (15, ct cod [0, 2, 3, 4, 5] [.c (.r 0 0), .c (.r 1 0), .c (.r 2 0), .c (.i .i64), .c (.i .i64)] [.x [.l false .byte, .i .i64], .x [.s, .i .i64, .o 3, .o 4, .s, .o 5, .o 6], .x [.s, .i .i64, .o 7, .o 8, .s, .o 9, .o 10], .l .end, .l .parcel, .l .record, .l .record, .l .end, .l .parcel, .l .record, .l .record] spec_l7Reached_l15),
  (7, ct cod [0, 2, 3, 4, 5] [.c (.r 0 0), .c (.r 1 0), .c (.r 2 0), .c (.i .i64), .c (.i .i64)] [.x [.l false .byte, .i .i64], .x [.s, .i .i64, .o 3, .o 4, .s, .o 5, .o 6], .x [.s, .i .i64, .o 7, .o 8, .s, .o 9, .o 10], .l .end, .l .parcel, .l .record, .l .record, .l .end, .l .parcel, .l .record, .l .record] spec_l7Reached_l7)]
theorem ok_spec_l7Reached (k : Nat) : SummOk Try.prog cod 74 (S_spec_l7Reached k) := sumOk codOk Try.f74 (fun k => lookT [(147, S_spec_l1Key k), (148, S_spec_l1Width k), (146, S_spec_NewWorld k), (73, S_spec_l1Rd_pick k), (72, S_spec_Calm k), (87, S_spec_l7Event k), (86, S_spec_l7Do k), (141, S_spec_l7Tick k), (143, S_spec_l7Bring k), (85, S_spec_l7Copy k)]) L_spec_l7Reached false [.cell 2 60] 1 [false] mixed Try.func74 (by kernel_rfl) (by kernel_rfl) (by kernel_rfl) (by kernel_rfl)
  (fun k => Known.of tok eok codOk (all_cons (ok_spec_l1Key k) (all_cons (ok_spec_l1Width k) (all_cons (ok_spec_NewWorld k) (all_cons (ok_spec_l1Rd_pick k) (all_cons (ok_spec_Calm k) (all_cons (ok_spec_l7Event k) (all_cons (ok_spec_l7Do k) (all_cons (ok_spec_l7Tick k) (all_cons (ok_spec_l7Bring k) (all_cons (ok_spec_l7Copy k) (all_nil))))))))))))
  (fun k => QuietOk.of (all_cons (fun h r => by cases h) (all_cons (fun h r => by cases h) (all_cons (fun h r => by cases h) (all_cons (fun h r => by cases h) (all_cons (fun h r => by cases h) (all_cons (fun h r => by cases h) (all_cons (fun h r => by cases h) (all_cons (fun h r => by cases h) (all_cons (fun h r => by cases h) (all_cons (fun h r => by cases h) (all_nil))))))))))))
  (fun a => rfl)
  (all_cons (ctGood codOk (by kernel_rfl) (by (repeat intro _); show _ = _; kernel_rfl) (fun k => by (repeat intro _); show _ = _; kernel_rfl)) (all_cons (ctGood codOk (by kernel_rfl) (by (repeat intro _); show _ = _; kernel_rfl) (fun k => by (repeat intro _); show _ = _; kernel_rfl)) (all_cons (ctGood codOk (by kernel_rfl) (by (repeat intro _); show _ = _; kernel_rfl) (fun k => by (repeat intro _); show _ = _; kernel_rfl)) (all_cons (ctGood codOk (by kernel_rfl) (by (repeat intro _); show _ = _; kernel_rfl) (fun k => by (repeat intro _); show _ = _; kernel_rfl)) (all_cons (ctGood codOk (by kernel_rfl) (by (repeat intro _); show _ = _; kernel_rfl) (fun k => by (repeat intro _); show _ = _; kernel_rfl)) (all_nil))))))
  (fun k => by (repeat intro _); show _ = _; kernel_rfl)
noncomputable def S_impl_ValidWorld (k : Nat) : Summ K TyK := sm cod (Bool) [.bo] [.g [.s, .i .i64, .l true .end, .l true .parcel, .s, .l true .record, .l true .record]] [] (fun k v1 v2 v3 v4 v5 v6 v7 => impl_ValidWorld k (⟨v1, v2, v3, v4, v5, v6, v7⟩ : DWorld)) k [.c (.b)] [] (fun r => (r, ())) (fun v1 => v1) true
noncomputable abbrev L_impl_ValidWorld : List (Nat × Cut K TyK (Bool)) := [(4, ct cod [1, 48, 49, 50] [.c (.r 0 0), .c (.l true .end), .c (.i .i64), .c (.i .i64)] [.x [.s, .i .i64, .l true .end, .l true .parcel, .s, .l true .record, .l true .record]] impl_ValidWorld_l4),
  (10, ct cod [1, 67, 68, 69] [.c (.r 0 0), .c (.l true .parcel), .c (.i .i64), .c (.i .i64)] [.x [.s, .i .i64, .l true .end, .l true .parcel, .s, .l true .record, .l true .record]] impl_ValidWorld_l10),
  (16, ct cod [98, 99, 100] [.c (.o 0), .c (.i .i64), .c (.i .i64)] [.l .lrecord] impl_ValidWorld_l16),
  (19, ct cod [98, 99, 100, 104, 105, 106] [.c (.o 0), .c (.i .i64), .c (.i .i64), .c (.l true .record), .c (.i .i64), .c (.i .i64)] [.l .lrecord] impl_ValidWorld_l19)]
theorem ok_impl_ValidWorld (k : Nat) : SummOk Try.prog cod 27 (S_impl_ValidWorld k) := sumOk codOk Try.f27 (fun k => lookT [(46, S_impl_ValidEnd k), (75, S_impl_in k)]) L_impl_ValidWorld false [.tmp 2] 0 [] mixed Try.func27 (by kernel_rfl) (by kernel_rfl) (by kernel_rfl) (by kernel_rfl)
  (fun k => Known.of tok eok codOk (all_cons (ok_impl_ValidEnd k) (all_cons (ok_impl_in k) (all_nil))))
  (fun k => QuietOk.of (all_cons (fun h r => ⟨rfl, rfl⟩) (all_cons (fun h r => ⟨rfl, rfl⟩) (all_nil))))
  (fun a => rfl)
  (all_cons (ctGood codOk (by kernel_rfl) (by (repeat intro _); show _ = _; kernel_rfl) (fun k => by (repeat intro _); show _ = _; kernel_rfl)) (all_cons (ctGood codOk (by kernel_rfl) (by (repeat intro _); show _ = _; kernel_rfl) (fun k => by (repeat intro _); show _ = _; kernel_rfl)) (all_cons (ctGood codOk (by kernel_rfl) (by (repeat intro _); show _ = _; kernel_rfl) (fun k => by (repeat intro _); show _ = _; kernel_rfl)) (all_cons (ctGood codOk (by kernel_rfl) (by (repeat intro _); show _ = _; kernel_rfl) (fun k => by (repeat intro _); show _ = _; kernel_rfl)) (all_nil)))))
  (fun k => by (repeat intro _); show _ = _; kernel_rfl)
noncomputable def S_impl_Right (k : Nat) : Summ K TyK := sm cod (Bool) [.bo] [.g [.s, .i .i64, .l true .end, .l true .parcel, .s, .l true .record, .l true .record]] [] (fun k v1 v2 v3 v4 v5 v6 v7 => impl_Right k (⟨v1, v2, v3, v4, v5, v6, v7⟩ : DWorld)) k [.c (.b)] [] (fun r => (r, ())) (fun v1 => v1) true
noncomputable abbrev L_impl_Right : List (Nat × Cut K TyK (Bool)) := [(5, ct cod [1, 3, 16, 17, 18] [.c (.r 0 0), .c (.m 1), .c (.l true .record), .c (.i .i64), .c (.i .i64)] [.x [.s, .i .i64, .l true .end, .l true .parcel, .s, .l true .record, .l true .record], .m .pair .lstr] impl_Right_l5),
  (12, ct cod [3, 7, 41, 42, 43] [.c (.m 0), .c (.m 1), .c (.l true .record), .c (.i .i64), .c (.i .i64)] [.m .pair .lstr, .m .pair .int] impl_Right_l12),
  (17, ct cod [3, 7, 10, 41, 42, 43] [.c (.m 0), .c (.m 1), .c (.r 2 0), .c (.l true .record), .c (.i .i64), .c (.i .i64)] [.m .pair .lstr, .m .pair .int, .x [.i .i64, .i .i64, .i .i64]] impl_Right_l17)]
theorem ok_impl_Right (k : Nat) : SummOk Try.prog cod 22 (S_impl_Right k) := sumOk codOk Try.f22 (fun k => lookT [(27, S_impl_ValidWorld k)]) L_impl_Right false [.tmp 2] 0 [] mixed Try.func22 (by kernel_rfl) (by kernel_rfl) (by kernel_rfl) (by kernel_rfl)
  (fun k => Known.of tok eok codOk (all_cons (ok_impl_ValidWorld k) (all_nil)))
  (fun k => QuietOk.of (all_cons (fun h r => ⟨rfl, rfl⟩) (all_nil)))
  (fun a => rfl)
  (all_cons (ctGood codOk (by kernel_rfl) (by (repeat intro _); show _ = _; kernel_rfl) (fun k => by (repeat intro _); show _ = _; kernel_rfl)) (all_cons (ctGood codOk (by kernel_rfl) (by (repeat intro _); show _ = _; kernel_rfl) (fun k => by (repeat intro _); show _ = _; kernel_rfl)) (all_cons (ctGood codOk (by kernel_rfl) (by (repeat intro _); show _ = _; kernel_rfl) (fun k => by (repeat intro _); show _ = _; kernel_rfl)) (all_nil))))
  (fun k => by (repeat intro _); show _ = _; kernel_rfl)
noncomputable def S_spec_Right (k : Nat) : Summ K TyK := sm cod (Bool) [.bo] [.g [.s, .i .i64, .l true .end, .l true .parcel, .s, .l true .record, .l true .record]] [] (fun k v1 v2 v3 v4 v5 v6 v7 => spec_Right k (⟨v1, v2, v3, v4, v5, v6, v7⟩ : DWorld)) k [.c (.b)] [] (fun r => (r, ())) (fun v1 => v1) true
noncomputable abbrev L_spec_Right : List (Nat × Cut K TyK (Bool)) := [(4, ct cod [1, 3] [.c (.r 0 0), .c (.i .i64)] [.x [.s, .i .i64, .l true .end, .l true .parcel, .s, .l true .record, .l true .record]] spec_Right_l4),
  (9, ct cod [1, 3, 4, 5, 6] [.c (.r 0 0), .c (.i .i64), .c (.r 1 0), .c (.i .i64), .c (.i .i64)] [.x [.s, .i .i64, .l true .end, .l true .parcel, .s, .l true .record, .l true .record], .x [.i .i64, .i .i64, .i .i64, .s]] spec_Right_l9),
  (10, ct cod [1, 3, 4, 5, 6] [.c (.r 0 0), .c (.i .i64), .c (.r 1 0), .c (.i .i64), .c (.i .i64)] [.x [.s, .i .i64, .l true .end, .l true .parcel, .s, .l true .record, .l true .record], .x [.i .i64, .i .i64, .i .i64, .s]] spec_Right_l10),
  (15, ct cod [1, 3, 4, 5, 7, 8] [.c (.r 0 0), .c (.i .i64), .c (.r 1 0), .c (.i .i64), .c (.b), .c (.i .i64)] [.x [.s, .i .i64, .l true .end, .l true .parcel, .s, .l true .record, .l true .record], .x [.i .i64, .i .i64, .i .i64, .s]] spec_Right_l15),
  (16, ct cod [1, 3, 4, 5, 7, 8] [.c (.r 0 0), .c (.i .i64), .c (.r 1 0), .c (.i .i64), .c (.b), .c (.i .i64)] [.x [.s, .i .i64, .l true .end, .l true .parcel, .s, .l true .record, .l true .record], .x [.i .i64, .i .i64, .i .i64, .s]] spec_Right_l16)]
theorem ok_spec_Right (k : Nat) : SummOk Try.prog cod 23 (S_spec_Right k) := sumOk codOk Try.f23 (fun k => lookT [(34, S_spec_ValidWorld k)]) L_spec_Right false [.tmp 2] 0 [] mixed Try.func23 (by kernel_rfl) (by kernel_rfl) (by kernel_rfl) (by kernel_rfl)
  (fun k => Known.of tok eok codOk (all_cons (ok_spec_ValidWorld k) (all_nil)))
  (fun k => QuietOk.of (all_cons (fun h r => ⟨rfl, rfl⟩) (all_nil)))
  (fun a => rfl)
  (all_cons (ctGood codOk (by kernel_rfl) (by (repeat intro _); show _ = _; kernel_rfl) (fun k => by (repeat intro _); show _ = _; kernel_rfl)) (all_cons (ctGood codOk (by kernel_rfl) (by (repeat intro _); show _ = _; kernel_rfl) (fun k => by (repeat intro _); show _ = _; kernel_rfl)) (all_cons (ctGood codOk (by kernel_rfl) (by (repeat intro _); show _ = _; kernel_rfl) (fun k => by (repeat intro _); show _ = _; kernel_rfl)) (all_cons (ctGood codOk (by kernel_rfl) (by (repeat intro _); show _ = _; kernel_rfl) (fun k => by (repeat intro _); show _ = _; kernel_rfl)) (all_cons (ctGood codOk (by kernel_rfl) (by (repeat intro _); show _ = _; kernel_rfl) (fun k => by (repeat intro _); show _ = _; kernel_rfl)) (all_nil))))))
  (fun k => by (repeat intro _); show _ = _; kernel_rfl)
noncomputable def S_spec_DrawReached (k : Nat) : Summ K TyK := sm cod (DWorld) [.pe] [.c (.l false .byte)] [] (spec_DrawReached) k [.g [.s, .i .i64, .o 0, .o 1, .s, .o 2, .o 3]] [.l .end, .l .parcel, .l .record, .l .record] (fun r => (r.Key, r.Width, (), (), r.Forged, (), (), r.Ends, r.Flight, r.Given, r.Taken, ())) (fun v1 v2 v3 v4 v5 v6 v7 => (⟨v1, v2, v4, v5, v3, v6, v7⟩ : DWorld)) false
theorem ok_spec_DrawReached (k : Nat) : SummOk Try.prog cod 26 (S_spec_DrawReached k) := sumOk codOk Try.f26 (fun k => lookT [(70, S_spec_l1Open k), (74, S_spec_l7Reached k)]) [] false [.cell 2 60] 0 [] mixed Try.func26 (by kernel_rfl) (by kernel_rfl) (by kernel_rfl) (by kernel_rfl)
  (fun k => Known.of tok eok codOk (all_cons (ok_spec_l1Open k) (all_cons (ok_spec_l7Reached k) (all_nil))))
  (fun k => QuietOk.of (all_cons (fun h r => by cases h) (all_cons (fun h r => by cases h) (all_nil))))
  (fun a => rfl)
  (all_nil)
  (fun k => by (repeat intro _); show _ = _; kernel_rfl)
noncomputable def S_impl_be (k : Nat) : Summ K TyK := sm cod (ByteArray) [.bo, .bo] [.c (.i .i64), .c (.i .i64)] [] (impl_be) k [.c (.s)] [] (fun r => (r, ())) (fun v1 => v1) true
noncomputable abbrev L_impl_be : List (Nat × Cut K TyK (ByteArray)) := [(3, ct cod [0, 5, 6] [.c (.i .i64), .c (.o 0), .c (.i .i64)] [.l .byte] impl_be_l3)]
theorem ok_impl_be (k : Nat) : SummOk Try.prog cod 76 (S_impl_be k) := sumOk codOk Try.f76 (fun k => lookT []) L_impl_be false [.tmp 4] 0 [] mixed Try.func76 (by kernel_rfl) (by kernel_rfl) (by kernel_rfl) (by kernel_rfl)
  (fun k => Known.of tok eok codOk (all_nil))
  (fun k => QuietOk.of (all_nil))
  (fun a => rfl)
  (all_cons (ctGood codOk (by kernel_rfl) (by (repeat intro _); show _ = _; kernel_rfl) (fun k => by (repeat intro _); show _ = _; kernel_rfl)) (all_nil))
  (fun k => by (repeat intro _); show _ = _; kernel_rfl)
noncomputable def S_impl_Tag (k : Nat) : Summ K TyK := sm cod (ByteArray) [.bo, .bo, .bo] [.c (.s), .c (.s), .c (.i .i64)] [] (impl_Tag) k [.c (.s)] [] (fun r => (r, ())) (fun v1 => v1) true
noncomputable abbrev L_impl_Tag : List (Nat × Cut K TyK (ByteArray)) := [(6, ct cod [2, 7, 8, 9] [.c (.i .i64), .c (.i .u64), .c (.s), .c (.i .i64)] [] impl_Tag_l6),
  (11, ct cod [2, 7, 10, 11] [.c (.i .i64), .c (.i .u64), .c (.z 0 0), .c (.i .i64)] [.l .byte] impl_Tag_l11)]
theorem ok_impl_Tag (k : Nat) : SummOk Try.prog cod 77 (S_impl_Tag k) := sumOk codOk Try.f77 (fun k => lookT []) L_impl_Tag false [.tmp 6] 0 [] mixed Try.func77 (by kernel_rfl) (by kernel_rfl) (by kernel_rfl) (by kernel_rfl)
  (fun k => Known.of tok eok codOk (all_nil))
  (fun k => QuietOk.of (all_nil))
  (fun a => rfl)
  (all_cons (ctGood codOk (by kernel_rfl) (by (repeat intro _); show _ = _; kernel_rfl) (fun k => by (repeat intro _); show _ = _; kernel_rfl)) (all_cons (ctGood codOk (by kernel_rfl) (by (repeat intro _); show _ = _; kernel_rfl) (fun k => by (repeat intro _); show _ = _; kernel_rfl)) (all_nil)))
  (fun k => by (repeat intro _); show _ = _; kernel_rfl)
noncomputable def S_impl_FormPacket (k : Nat) : Summ K TyK := sm cod (ByteArray) [.bo, .bo, .bo] [.g [.i .i64, .i .i64, .i .i64, .i .i64, .i .i64, .i .i64, .i .i64, .b, .s], .c (.s), .c (.i .i64)] [] (fun k v1 v2 v3 v4 v5 v6 v7 v8 v9 v10 v11 => impl_FormPacket k (⟨v1, v2, v3, v4, v5, v6, v7, v8, v9⟩ : DPacket) v10 v11) k [.c (.s)] [] (fun r => (r, ())) (fun v1 => v1) true
noncomputable abbrev L_impl_FormPacket : List (Nat × Cut K TyK (ByteArray)) := [(10, ct cod [1, 2, 7] [.c (.s), .c (.i .i64), .c (.s)] [] impl_FormPacket_l10),
  (9, ct cod [1, 2, 3, 7, 8] [.c (.s), .c (.i .i64), .c (.r 0 0), .c (.s), .c (.i .i64)] [.x [.i .i64, .i .i64, .i .i64, .i .i64, .i .i64, .i .i64, .i .i64, .b, .s]] impl_FormPacket_l9)]
theorem ok_impl_FormPacket (k : Nat) : SummOk Try.prog cod 28 (S_impl_FormPacket k) := sumOk codOk Try.f28 (fun k => lookT [(59, S_impl_validPacket k), (76, S_impl_be k), (77, S_impl_Tag k)]) L_impl_FormPacket false [.tmp 6] 0 [] mixed Try.func28 (by kernel_rfl) (by kernel_rfl) (by kernel_rfl) (by kernel_rfl)
  (fun k => Known.of tok eok codOk (all_cons (ok_impl_validPacket k) (all_cons (ok_impl_be k) (all_cons (ok_impl_Tag k) (all_nil)))))
  (fun k => QuietOk.of (all_cons (fun h r => ⟨rfl, rfl⟩) (all_cons (fun h r => ⟨rfl, rfl⟩) (all_cons (fun h r => ⟨rfl, rfl⟩) (all_nil)))))
  (fun a => rfl)
  (all_cons (ctGood codOk (by kernel_rfl) (by (repeat intro _); show _ = _; kernel_rfl) (fun k => by (repeat intro _); show _ = _; kernel_rfl)) (all_cons (ctGood codOk (by kernel_rfl) (by (repeat intro _); show _ = _; kernel_rfl) (fun k => by (repeat intro _); show _ = _; kernel_rfl)) (all_nil)))
  (fun k => by (repeat intro _); show _ = _; kernel_rfl)
noncomputable def S_impl_copyWorld (k : Nat) : Summ K TyK := sm cod (DWorld) [.bo] [.g [.s, .i .i64, .l true .end, .l true .parcel, .s, .l true .record, .l true .record]] [] (fun k v1 v2 v3 v4 v5 v6 v7 => impl_copyWorld k (⟨v1, v2, v3, v4, v5, v6, v7⟩ : DWorld)) k [.g [.s, .i .i64, .o 0, .o 1, .s, .o 2, .o 3]] [.l .end, .l .parcel, .l .record, .l .record] (fun r => (r.Key, r.Width, (), (), r.Forged, (), (), r.Ends, r.Flight, r.Given, r.Taken, ())) (fun v1 v2 v3 v4 v5 v6 v7 => (⟨v1, v2, v4, v5, v3, v6, v7⟩ : DWorld)) false
noncomputable abbrev L_impl_copyWorld : List (Nat × Cut K TyK (DWorld)) := [(3, ct cod [1, 2, 10, 11] [.c (.r 0 0), .c (.r 1 0), .c (.i .i64), .c (.i .i64)] [.x [.s, .i .i64, .o 2, .l true .parcel, .s, .l true .record, .l true .record], .x [.s, .i .i64, .o 3, .o 4, .s, .o 5, .o 6], .l .end, .l .end, .l .parcel, .l .record, .l .record] impl_copyWorld_l3)]
theorem ok_impl_copyWorld (k : Nat) : SummOk Try.prog cod 78 (S_impl_copyWorld k) := sumOk codOk Try.f78 (fun k => lookT [(58, S_impl_copyEnd k)]) L_impl_copyWorld false [.cell 2 60] 0 [] mixed Try.func78 (by kernel_rfl) (by kernel_rfl) (by kernel_rfl) (by kernel_rfl)
  (fun k => Known.of tok eok codOk (all_cons (ok_impl_copyEnd k) (all_nil)))
  (fun k => QuietOk.of (all_cons (fun h r => by cases h) (all_nil)))
  (fun a => rfl)
  (all_cons (ctGood codOk (by kernel_rfl) (by (repeat intro _); show _ = _; kernel_rfl) (fun k => by (repeat intro _); show _ = _; kernel_rfl)) (all_nil))
  (fun k => by (repeat intro _); show _ = _; kernel_rfl)
noncomputable def S_impl_SendTick (k : Nat) : Summ K TyK := sm cod (DSend × List Int) [.bo] [.g [.i .i64, .l true .item]] [] (fun k v1 v2 => impl_SendTick k (⟨v1, v2⟩ : DSend)) k [.g [.i .i64, .o 0], .c (.o 1)] [.l .item, .l .int] (fun r => (r.1.Base, (), (), r.1.Items, r.2, ())) (fun v1 v2 v3 => ((⟨v1, v2⟩ : DSend), v3)) false
noncomputable abbrev L_impl_SendTick : List (Nat × Cut K TyK (DSend × List Int)) := [(6, ct cod [2, 4, 5, 6] [.c (.r 0 0), .c (.r 1 0), .c (.o 2), .c (.i .i64)] [.x [.i .i64, .o 3], .x [.i .i64, .o 4], .l .int, .l .item, .l .item] impl_SendTick_l6),
  (7, ct cod [2, 4, 5, 6] [.c (.r 0 0), .c (.r 1 0), .c (.o 2), .c (.i .i64)] [.x [.i .i64, .o 3], .x [.i .i64, .o 4], .l .int, .l .item, .l .item] impl_SendTick_l7)]
theorem ok_impl_SendTick (k : Nat) : SummOk Try.prog cod 96 (S_impl_SendTick k) := sumOk codOk Try.f96 (fun k => lookT [(109, S_impl_ValidSend k), (126, S_impl_copySend k)]) L_impl_SendTick false [.cell 2 37, .tmp 3] 0 [] mixed Try.func96 (by kernel_rfl) (by kernel_rfl) (by kernel_rfl) (by kernel_rfl)
  (fun k => Known.of tok eok codOk (all_cons (ok_impl_ValidSend k) (all_cons (ok_impl_copySend k) (all_nil))))
  (fun k => QuietOk.of (all_cons (fun h r => ⟨rfl, rfl⟩) (all_cons (fun h r => by cases h) (all_nil))))
  (fun a => rfl)
  (all_cons (ctGood codOk (by kernel_rfl) (by (repeat intro _); show _ = _; kernel_rfl) (fun k => by (repeat intro _); show _ = _; kernel_rfl)) (all_cons (ctGood codOk (by kernel_rfl) (by (repeat intro _); show _ = _; kernel_rfl) (fun k => by (repeat intro _); show _ = _; kernel_rfl)) (all_nil)))
  (fun k => by (repeat intro _); show _ = _; kernel_rfl)
noncomputable def S_impl_TakeWord (k : Nat) : Summ K TyK := sm cod (Int × Int) [.bo] [.g [.i .i64, .l true .held, .s, .l true .str]] [] (fun k v1 v2 v3 v4 => impl_TakeWord k (⟨v1, v2, v3, v4⟩ : DTake)) k [.c (.i .i64), .c (.i .i64)] [] (fun r => (r.1, r.2, ())) (fun v1 v2 => (v1, v2)) true
noncomputable abbrev L_impl_TakeWord : List (Nat × Cut K TyK (Int × Int)) := [(5, ct cod [1, 4, 11, 12, 13] [.c (.r 0 0), .c (.i .i64), .c (.l true .held), .c (.i .i64), .c (.i .i64)] [.x [.i .i64, .l true .held, .s, .l true .str]] impl_TakeWord_l5)]
theorem ok_impl_TakeWord (k : Nat) : SummOk Try.prog cod 97 (S_impl_TakeWord k) := sumOk codOk Try.f97 (fun k => lookT [(110, S_impl_ValidTake k)]) L_impl_TakeWord false [.tmp 2, .tmp 3] 0 [] mixed Try.func97 (by kernel_rfl) (by kernel_rfl) (by kernel_rfl) (by kernel_rfl)
  (fun k => Known.of tok eok codOk (all_cons (ok_impl_ValidTake k) (all_nil)))
  (fun k => QuietOk.of (all_cons (fun h r => ⟨rfl, rfl⟩) (all_nil)))
  (fun a => rfl)
  (all_cons (ctGood codOk (by kernel_rfl) (by (repeat intro _); show _ = _; kernel_rfl) (fun k => by (repeat intro _); show _ = _; kernel_rfl)) (all_nil))
  (fun k => by (repeat intro _); show _ = _; kernel_rfl)
noncomputable def S_impl_EndTick (k : Nat) : Summ K TyK := sm cod (DActed) [.bo] [.g [.i .i64, .b, .i .i64, .i .i64, .i .i64, .b, .i .i64, .l true .item, .i .i64, .l true .held, .s, .l true .str]] [] (fun k v1 v2 v3 v4 v5 v6 v7 v8 v9 v10 v11 v12 => impl_EndTick k (⟨v1, v2, v3, v4, v5, v6, (⟨v7, v8⟩ : DSend), (⟨v9, v10, v11, v12⟩ : DTake)⟩ : DEnd)) k [.g [.i .i64, .i .i64, .b, .i .i64, .i .i64, .i .i64, .b, .i .i64, .o 0, .i .i64, .o 1, .s, .o 2, .o 3, .s]] [.l .item, .l .held, .l .str, .l .packet] (fun r => (r.Code, r.End.Number, r.End.Up, r.End.Life, r.End.Peer, r.End.Since, r.End.Owes, r.End.Send.Base, (), r.End.Take.Next, (), r.End.Take.Open, (), (), r.Text, r.End.Send.Items, r.End.Take.Held, r.End.Take.Ready, r.Out, ())) (fun v1 v2 v3 v4 v5 v6 v7 v8 v9 v10 v11 v12 v13 v14 v15 => (⟨v1, (⟨v2, v3, v4, v5, v6, v7, (⟨v8, v12⟩ : DSend), (⟨v9, v13, v10, v14⟩ : DTake)⟩ : DEnd), v15, v11⟩ : DActed)) false
noncomputable abbrev L_impl_EndTick : List (Nat × Cut K TyK (DActed)) := [(9, ct cod [2, 3, 4] [.c (.r 0 0), .c (.r 1 0), .c (.r 1 1)] [.x [.i .i64, .i .i64, .b, .i .i64, .i .i64, .i .i64, .b, .i .i64, .o 2, .i .i64, .o 3, .s, .o 4, .o 5, .s], .x [.i .i64, .i .i64, .b, .i .i64, .i .i64, .i .i64, .b, .i .i64, .o 6, .i .i64, .o 7, .s, .o 8, .o 9, .s], .l .item, .l .held, .l .str, .l .packet, .l .item, .l .held, .l .str, .l .packet] impl_EndTick_l9),
  (13, ct cod [2, 3, 4, 53, 54, 55] [.c (.r 0 0), .c (.r 1 0), .c (.r 1 1), .c (.o 2), .c (.i .i64), .c (.i .i64)] [.x [.i .i64, .i .i64, .b, .i .i64, .i .i64, .i .i64, .b, .i .i64, .o 3, .i .i64, .o 4, .s, .o 5, .o 6, .s], .x [.i .i64, .i .i64, .b, .i .i64, .i .i64, .i .i64, .b, .i .i64, .o 7, .i .i64, .o 8, .s, .o 9, .o 10, .s], .l .int, .l .item, .l .held, .l .str, .l .packet, .l .item, .l .held, .l .str, .l .packet] impl_EndTick_l13),
  (18, ct cod [2, 3, 4] [.c (.r 0 0), .c (.r 1 0), .c (.r 1 1)] [.x [.i .i64, .i .i64, .b, .i .i64, .i .i64, .i .i64, .b, .i .i64, .o 2, .i .i64, .o 3, .s, .o 4, .o 5, .s], .x [.i .i64, .i .i64, .b, .i .i64, .i .i64, .i .i64, .b, .i .i64, .o 6, .i .i64, .o 7, .s, .o 8, .o 9, .s], .l .item, .l .held, .l .str, .l .packet, .l .item, .l .held, .l .str, .l .packet] impl_EndTick_l18),
  (22, ct cod [2, 3] [.c (.r 0 0), .c (.r 1 0)] [.x [.i .i64, .i .i64, .b, .i .i64, .i .i64, .i .i64, .b, .i .i64, .o 2, .i .i64, .o 3, .s, .o 4, .o 5, .s], .x [.i .i64, .i .i64, .b, .i .i64, .i .i64, .i .i64, .b, .i .i64, .o 6, .i .i64, .o 7, .s, .o 8, .o 9, .s], .l .item, .l .held, .l .str, .l .packet, .l .item, .l .held, .l .str, .l .packet] impl_EndTick_l22)]
theorem ok_impl_EndTick (k : Nat) : SummOk Try.prog cod 38 (S_impl_EndTick k) := sumOk codOk Try.f38 (fun k => lookT [(46, S_impl_ValidEnd k), (58, S_impl_copyEnd k), (96, S_impl_SendTick k), (97, S_impl_TakeWord k)]) L_impl_EndTick false [.cell 2 45] 0 [] mixed Try.func38 (by kernel_rfl) (by kernel_rfl) (by kernel_rfl) (by kernel_rfl)
  (fun k => Known.of tok eok codOk (all_cons (ok_impl_ValidEnd k) (all_cons (ok_impl_copyEnd k) (all_cons (ok_impl_SendTick k) (all_cons (ok_impl_TakeWord k) (all_nil))))))
  (fun k => QuietOk.of (all_cons (fun h r => ⟨rfl, rfl⟩) (all_cons (fun h r => by cases h) (all_cons (fun h r => by cases h) (all_cons (fun h r => ⟨rfl, rfl⟩) (all_nil))))))
  (fun a => rfl)
  (all_cons (ctGood codOk (by kernel_rfl) (by (repeat intro _); show _ = _; kernel_rfl) (fun k => by (repeat intro _); show _ = _; kernel_rfl)) (all_cons (ctGood codOk (by kernel_rfl) (by (repeat intro _); show _ = _; kernel_rfl) (fun k => by (repeat intro _); show _ = _; kernel_rfl)) (all_cons (ctGood codOk (by kernel_rfl) (by (repeat intro _); show _ = _; kernel_rfl) (fun k => by (repeat intro _); show _ = _; kernel_rfl)) (all_cons (ctGood codOk (by kernel_rfl) (by (repeat intro _); show _ = _; kernel_rfl) (fun k => by (repeat intro _); show _ = _; kernel_rfl)) (all_nil)))))
  (fun k => by (repeat intro _); show _ = _; kernel_rfl)
noncomputable def S_impl_World_tick (k : Nat) : Summ K TyK := sm cod (DWorld) [.mv] [.c (.r 0 0)] [.x [.s, .i .i64, .o 1, .o 2, .s, .o 3, .o 4], .l .end, .l .parcel, .l .record, .l .record] (fun k v1 v2 v3 v4 v5 v6 v7 => impl_World_tick k (⟨v1, v2, v4, v5, v3, v6, v7⟩ : DWorld)) k [] [.x [.s, .i .i64, .o 5, .o 6, .s, .o 7, .o 8], .d, .d, .d, .d, .l .end, .l .parcel, .l .record, .l .record] (fun r => (r.Key, r.Width, (), (), r.Forged, (), (), r.Ends, r.Flight, r.Given, r.Taken, ())) (fun v1 v2 v3 v4 v5 v6 v7 => (⟨v1, v2, v4, v5, v3, v6, v7⟩ : DWorld)) false
noncomputable abbrev L_impl_World_tick : List (Nat × Cut K TyK (DWorld)) := [(1, ct cod [0, 11, 12] [.c (.r 0 0), .c (.i .i64), .c (.i .i64)] [.x [.s, .i .i64, .o 5, .o 6, .s, .o 7, .o 8], .d, .d, .d, .d, .l .end, .l .parcel, .l .record, .l .record] impl_World_tick_l1),
  (6, ct cod [0, 2, 11, 12, 32, 33, 34] [.c (.r 0 0), .c (.i .i64), .c (.i .i64), .c (.i .i64), .c (.o 5), .c (.i .i64), .c (.i .i64)] [.x [.s, .i .i64, .o 6, .o 7, .s, .o 8, .o 9], .d, .d, .d, .d, .l .packet, .l .end, .l .parcel, .l .record, .l .record] impl_World_tick_l6),
  (11, ct cod [0, 2, 11, 12, 32, 33, 34] [.c (.r 0 0), .c (.i .i64), .c (.i .i64), .c (.i .i64), .c (.o 5), .c (.i .i64), .c (.i .i64)] [.x [.s, .i .i64, .o 6, .o 7, .s, .o 8, .o 9], .d, .d, .d, .d, .l .packet, .l .end, .l .parcel, .l .record, .l .record] impl_World_tick_l11)]
theorem ok_impl_World_tick (k : Nat) : SummOk Try.prog cod 79 (S_impl_World_tick k) := sumOk codOk Try.f79 (fun k => lookT [(38, S_impl_EndTick k), (28, S_impl_FormPacket k)]) L_impl_World_tick false [] 5 [false, true, true, true, true] mixed Try.func79 (by kernel_rfl) (by kernel_rfl) (by kernel_rfl) (by kernel_rfl)
  (fun k => Known.of tok eok codOk (all_cons (ok_impl_EndTick k) (all_cons (ok_impl_FormPacket k) (all_nil))))
  (fun k => QuietOk.of (all_cons (fun h r => by cases h) (all_cons (fun h r => ⟨rfl, rfl⟩) (all_nil))))
  (fun a => rfl)
  (all_cons (ctGood codOk (by kernel_rfl) (by (repeat intro _); show _ = _; kernel_rfl) (fun k => by (repeat intro _); show _ = _; kernel_rfl)) (all_cons (ctGood codOk (by kernel_rfl) (by (repeat intro _); show _ = _; kernel_rfl) (fun k => by (repeat intro _); show _ = _; kernel_rfl)) (all_cons (ctGood codOk (by kernel_rfl) (by (repeat intro _); show _ = _; kernel_rfl) (fun k => by (repeat intro _); show _ = _; kernel_rfl)) (all_nil))))
  (fun k => by (repeat intro _); show _ = _; kernel_rfl)
noncomputable def S_impl_num (k : Nat) : Summ K TyK := sm cod (Int) [.bo] [.c (.s)] [] (impl_num) k [.c (.i .i64)] [] (fun r => (r, ())) (fun v1 => v1) true
noncomputable abbrev L_impl_num : List (Nat × Cut K TyK (Int)) := [(3, ct cod [0, 3, 4] [.c (.s), .c (.i .i64), .c (.i .i64)] [] impl_num_l3)]
theorem ok_impl_num (k : Nat) : SummOk Try.prog cod 173 (S_impl_num k) := sumOk codOk Try.f173 (fun k => lookT []) L_impl_num false [.tmp 2] 0 [] mixed Try.func173 (by kernel_rfl) (by kernel_rfl) (by kernel_rfl) (by kernel_rfl)
  (fun k => Known.of tok eok codOk (all_nil))
  (fun k => QuietOk.of (all_nil))
  (fun a => rfl)
  (all_cons (ctGood codOk (by kernel_rfl) (by (repeat intro _); show _ = _; kernel_rfl) (fun k => by (repeat intro _); show _ = _; kernel_rfl)) (all_nil))
  (fun k => by (repeat intro _); show _ = _; kernel_rfl)
noncomputable def S_impl_ReadPacket (k : Nat) : Summ K TyK := sm cod (DPacket × Bool) [.bo, .bo, .bo] [.c (.s), .c (.s), .c (.i .i64)] [] (impl_ReadPacket) k [.g [.i .i64, .i .i64, .i .i64, .i .i64, .i .i64, .i .i64, .i .i64, .b, .s], .c (.b)] [] (fun r => (r.1.Kind, r.1.From, r.1.Mine, r.1.Yours, r.1.Next, r.1.Mask, r.1.Seq, r.1.Last, r.1.Part, r.2, ())) (fun v1 v2 v3 v4 v5 v6 v7 v8 v9 v10 => ((⟨v1, v2, v3, v4, v5, v6, v7, v8, v9⟩ : DPacket), v10)) true
noncomputable abbrev L_impl_ReadPacket : List (Nat × Cut K TyK (DPacket × Bool)) := [(10, ct cod [0, 1, 2, 6, 9] [.c (.s), .c (.s), .c (.i .i64), .c (.r 0 0), .c (.r 1 0)] [.x [.i .i64, .i .i64, .i .i64, .i .i64, .i .i64, .i .i64, .i .i64, .b, .s], .x [.i .i64, .i .i64, .i .i64, .i .i64, .i .i64, .i .i64, .i .i64, .b, .s]] impl_ReadPacket_l10)]
theorem ok_impl_ReadPacket (k : Nat) : SummOk Try.prog cod 149 (S_impl_ReadPacket k) := sumOk codOk Try.f149 (fun k => lookT [(173, S_impl_num k), (59, S_impl_validPacket k), (28, S_impl_FormPacket k)]) L_impl_ReadPacket false [.cell 6 48, .tmp 7] 0 [] mixed Try.func149 (by kernel_rfl) (by kernel_rfl) (by kernel_rfl) (by kernel_rfl)
  (fun k => Known.of tok eok codOk (all_cons (ok_impl_num k) (all_cons (ok_impl_validPacket k) (all_cons (ok_impl_FormPacket k) (all_nil)))))
  (fun k => QuietOk.of (all_cons (fun h r => ⟨rfl, rfl⟩) (all_cons (fun h r => ⟨rfl, rfl⟩) (all_cons (fun h r => ⟨rfl, rfl⟩) (all_nil)))))
  (fun a => rfl)
  (all_cons (ctGood codOk (by kernel_rfl) (by (repeat intro _); show _ = _; kernel_rfl) (fun k => by (repeat intro _); show _ = _; kernel_rfl)) (all_nil))
  (fun k => by (repeat intro _); show _ = _; kernel_rfl)
noncomputable def S_impl_World_bring (k : Nat) : Summ K TyK := sm cod (DWorld) [.mv, .mv] [.c (.r 0 0), .g [.i .i64, .s, .s]] [.x [.s, .i .i64, .o 1, .o 2, .s, .o 3, .o 4], .l .end, .l .parcel, .l .record, .l .record] (fun k v1 v2 v3 v4 v5 v6 v7 v8 v9 v10 => impl_World_bring k (⟨v4, v5, v7, v8, v6, v9, v10⟩ : DWorld) (⟨v1, v2, v3⟩ : DParcel)) k [] [.x [.s, .i .i64, .o 5, .o 6, .s, .o 7, .o 8], .d, .d, .d, .d, .l .end, .l .parcel, .l .record, .l .record] (fun r => (r.Key, r.Width, (), (), r.Forged, (), (), r.Ends, r.Flight, r.Given, r.Taken, ())) (fun v1 v2 v3 v4 v5 v6 v7 => (⟨v1, v2, v4, v5, v3, v6, v7⟩ : DWorld)) false
noncomputable abbrev L_impl_World_bring : List (Nat × Cut K TyK (DWorld)) := [(5, ct cod [0, 3, 4] [.c (.r 0 0), .c (.r 5 0), .c (.r 6 0)] [.x [.s, .i .i64, .o 7, .o 8, .s, .o 9, .o 10], .d, .d, .d, .d, .x [.i .i64, .s, .s], .x [.i .i64, .i .i64, .i .i64, .i .i64, .i .i64, .i .i64, .i .i64, .b, .s], .l .end, .l .parcel, .l .record, .l .record] impl_World_bring_l5)]
theorem ok_impl_World_bring (k : Nat) : SummOk Try.prog cod 80 (S_impl_World_bring k) := sumOk codOk Try.f80 (fun k => lookT [(149, S_impl_ReadPacket k), (15, S_impl_EndTake k)]) L_impl_World_bring false [] 5 [false, true, true, true, true] mixed Try.func80 (by kernel_rfl) (by kernel_rfl) (by kernel_rfl) (by kernel_rfl)
  (fun k => Known.of tok eok codOk (all_cons (ok_impl_ReadPacket k) (all_cons (ok_impl_EndTake k) (all_nil))))
  (fun k => QuietOk.of (all_cons (fun h r => ⟨rfl, rfl⟩) (all_cons (fun h r => by cases h) (all_nil))))
  (fun a => rfl)
  (all_cons (ctGood codOk (by kernel_rfl) (by (repeat intro _); show _ = _; kernel_rfl) (fun k => by (repeat intro _); show _ = _; kernel_rfl)) (all_nil))
  (fun k => by (repeat intro _); show _ = _; kernel_rfl)
noncomputable def S_impl_EndFall (k : Nat) : Summ K TyK := sm cod (DEnd) [.bo] [.g [.i .i64, .b, .i .i64, .i .i64, .i .i64, .b, .i .i64, .l true .item, .i .i64, .l true .held, .s, .l true .str]] [] (fun k v1 v2 v3 v4 v5 v6 v7 v8 v9 v10 v11 v12 => impl_EndFall k (⟨v1, v2, v3, v4, v5, v6, (⟨v7, v8⟩ : DSend), (⟨v9, v10, v11, v12⟩ : DTake)⟩ : DEnd)) k [.g [.i .i64, .b, .i .i64, .i .i64, .i .i64, .b, .i .i64, .o 0, .i .i64, .o 1, .s, .o 2]] [.l .item, .l .held, .l .str] (fun r => (r.Number, r.Up, r.Life, r.Peer, r.Since, r.Owes, r.Send.Base, (), r.Take.Next, (), r.Take.Open, (), r.Send.Items, r.Take.Held, r.Take.Ready, ())) (fun v1 v2 v3 v4 v5 v6 v7 v8 v9 v10 v11 v12 => (⟨v1, v2, v3, v4, v5, v6, (⟨v7, v10⟩ : DSend), (⟨v8, v11, v9, v12⟩ : DTake)⟩ : DEnd)) false
theorem ok_impl_EndFall (k : Nat) : SummOk Try.prog cod 48 (S_impl_EndFall k) := sumOk codOk Try.f48 (fun k => lookT [(46, S_impl_ValidEnd k)]) [] false [.cell 2 42] 0 [] mixed Try.func48 (by kernel_rfl) (by kernel_rfl) (by kernel_rfl) (by kernel_rfl)
  (fun k => Known.of tok eok codOk (all_cons (ok_impl_ValidEnd k) (all_nil)))
  (fun k => QuietOk.of (all_cons (fun h r => ⟨rfl, rfl⟩) (all_nil)))
  (fun a => rfl)
  (all_nil)
  (fun k => by (repeat intro _); show _ = _; kernel_rfl)
noncomputable def S_impl_EndRise (k : Nat) : Summ K TyK := sm cod (DEnd) [.bo] [.g [.i .i64, .b, .i .i64, .i .i64, .i .i64, .b, .i .i64, .l true .item, .i .i64, .l true .held, .s, .l true .str]] [] (fun k v1 v2 v3 v4 v5 v6 v7 v8 v9 v10 v11 v12 => impl_EndRise k (⟨v1, v2, v3, v4, v5, v6, (⟨v7, v8⟩ : DSend), (⟨v9, v10, v11, v12⟩ : DTake)⟩ : DEnd)) k [.g [.i .i64, .b, .i .i64, .i .i64, .i .i64, .b, .i .i64, .o 0, .i .i64, .o 1, .s, .o 2]] [.l .item, .l .held, .l .str] (fun r => (r.Number, r.Up, r.Life, r.Peer, r.Since, r.Owes, r.Send.Base, (), r.Take.Next, (), r.Take.Open, (), r.Send.Items, r.Take.Held, r.Take.Ready, ())) (fun v1 v2 v3 v4 v5 v6 v7 v8 v9 v10 v11 v12 => (⟨v1, v2, v3, v4, v5, v6, (⟨v7, v10⟩ : DSend), (⟨v8, v11, v9, v12⟩ : DTake)⟩ : DEnd)) false
theorem ok_impl_EndRise (k : Nat) : SummOk Try.prog cod 47 (S_impl_EndRise k) := sumOk codOk Try.f47 (fun k => lookT [(46, S_impl_ValidEnd k), (58, S_impl_copyEnd k)]) [] false [.cell 2 42] 0 [] mixed Try.func47 (by kernel_rfl) (by kernel_rfl) (by kernel_rfl) (by kernel_rfl)
  (fun k => Known.of tok eok codOk (all_cons (ok_impl_ValidEnd k) (all_cons (ok_impl_copyEnd k) (all_nil))))
  (fun k => QuietOk.of (all_cons (fun h r => ⟨rfl, rfl⟩) (all_cons (fun h r => by cases h) (all_nil))))
  (fun a => rfl)
  (all_nil)
  (fun k => by (repeat intro _); show _ = _; kernel_rfl)
noncomputable def S_impl_World_full (k : Nat) : Summ K TyK := sm cod (Bool × DWorld) [.mv] [.c (.r 0 0)] [.x [.s, .i .i64, .o 1, .o 2, .s, .o 3, .o 4], .l .end, .l .parcel, .l .record, .l .record] (fun k v1 v2 v3 v4 v5 v6 v7 => impl_World_full k (⟨v1, v2, v4, v5, v3, v6, v7⟩ : DWorld)) k [.c (.b)] [.x [.s, .i .i64, .o 5, .o 6, .s, .o 7, .o 8], .d, .d, .d, .d, .l .end, .l .parcel, .l .record, .l .record] (fun r => (r.1, r.2.Key, r.2.Width, (), (), r.2.Forged, (), (), r.2.Ends, r.2.Flight, r.2.Given, r.2.Taken, ())) (fun v1 v2 v3 v4 v5 v6 v7 v8 => (v1, (⟨v2, v3, v5, v6, v4, v7, v8⟩ : DWorld))) false
theorem ok_impl_World_full (k : Nat) : SummOk Try.prog cod 81 (S_impl_World_full k) := sumOk codOk Try.f81 (fun k => lookT []) [] false [.tmp 2] 5 [false, true, true, true, true] mixed Try.func81 (by kernel_rfl) (by kernel_rfl) (by kernel_rfl) (by kernel_rfl)
  (fun k => Known.of tok eok codOk (all_nil))
  (fun k => QuietOk.of (all_nil))
  (fun a => rfl)
  (all_nil)
  (fun k => by (repeat intro _); show _ = _; kernel_rfl)
noncomputable def S_impl_Cut (k : Nat) : Summ K TyK := sm cod (List DPart) [.bo] [.c (.s)] [] (impl_Cut) k [.c (.o 0)] [.l .part] (fun r => ((), r, ())) (fun v1 => v1) false
noncomputable abbrev L_impl_Cut : List (Nat × Cut K TyK (List DPart)) := [(4, ct cod [0, 3] [.c (.s), .c (.o 0)] [.l .part] impl_Cut_l4)]
theorem ok_impl_Cut (k : Nat) : SummOk Try.prog cod 155 (S_impl_Cut k) := sumOk codOk Try.f155 (fun k => lookT []) L_impl_Cut false [.tmp 2] 0 [] mixed Try.func155 (by kernel_rfl) (by kernel_rfl) (by kernel_rfl) (by kernel_rfl)
  (fun k => Known.of tok eok codOk (all_nil))
  (fun k => QuietOk.of (all_nil))
  (fun a => rfl)
  (all_cons (ctGood codOk (by kernel_rfl) (by (repeat intro _); show _ = _; kernel_rfl) (fun k => by (repeat intro _); show _ = _; kernel_rfl)) (all_nil))
  (fun k => by (repeat intro _); show _ = _; kernel_rfl)
noncomputable def S_impl_SendPush (k : Nat) : Summ K TyK := sm cod (DSend × Int) [.bo, .bo] [.g [.i .i64, .l true .item], .c (.s)] [] (fun k v1 v2 v3 => impl_SendPush k (⟨v1, v2⟩ : DSend) v3) k [.g [.i .i64, .o 0], .c (.i .i64)] [.l .item] (fun r => (r.1.Base, (), r.2, r.1.Items, ())) (fun v1 v2 v3 => ((⟨v1, v3⟩ : DSend), v2)) false
noncomputable abbrev L_impl_SendPush : List (Nat × Cut K TyK (DSend × Int)) := [(9, ct cod [4, 8, 40, 41, 42] [.c (.r 0 0), .c (.r 1 0), .c (.o 2), .c (.i .i64), .c (.i .i64)] [.x [.i .i64, .o 3], .x [.i .i64, .o 4], .l .part, .l .item, .l .item] impl_SendPush_l9)]
theorem ok_impl_SendPush (k : Nat) : SummOk Try.prog cod 98 (S_impl_SendPush k) := sumOk codOk Try.f98 (fun k => lookT [(109, S_impl_ValidSend k), (155, S_impl_Cut k), (126, S_impl_copySend k)]) L_impl_SendPush false [.cell 4 37, .tmp 5] 0 [] mixed Try.func98 (by kernel_rfl) (by kernel_rfl) (by kernel_rfl) (by kernel_rfl)
  (fun k => Known.of tok eok codOk (all_cons (ok_impl_ValidSend k) (all_cons (ok_impl_Cut k) (all_cons (ok_impl_copySend k) (all_nil)))))
  (fun k => QuietOk.of (all_cons (fun h r => ⟨rfl, rfl⟩) (all_cons (fun h r => by cases h) (all_cons (fun h r => by cases h) (all_nil)))))
  (fun a => rfl)
  (all_cons (ctGood codOk (by kernel_rfl) (by (repeat intro _); show _ = _; kernel_rfl) (fun k => by (repeat intro _); show _ = _; kernel_rfl)) (all_nil))
  (fun k => by (repeat intro _); show _ = _; kernel_rfl)
noncomputable def S_impl_EndPush (k : Nat) : Summ K TyK := sm cod (DActed) [.bo, .bo] [.g [.i .i64, .b, .i .i64, .i .i64, .i .i64, .b, .i .i64, .l true .item, .i .i64, .l true .held, .s, .l true .str], .c (.s)] [] (fun k v1 v2 v3 v4 v5 v6 v7 v8 v9 v10 v11 v12 v13 => impl_EndPush k (⟨v1, v2, v3, v4, v5, v6, (⟨v7, v8⟩ : DSend), (⟨v9, v10, v11, v12⟩ : DTake)⟩ : DEnd) v13) k [.g [.i .i64, .i .i64, .b, .i .i64, .i .i64, .i .i64, .b, .i .i64, .o 0, .i .i64, .o 1, .s, .o 2, .o 3, .s]] [.l .item, .l .held, .l .str, .l .packet] (fun r => (r.Code, r.End.Number, r.End.Up, r.End.Life, r.End.Peer, r.End.Since, r.End.Owes, r.End.Send.Base, (), r.End.Take.Next, (), r.End.Take.Open, (), (), r.Text, r.End.Send.Items, r.End.Take.Held, r.End.Take.Ready, r.Out, ())) (fun v1 v2 v3 v4 v5 v6 v7 v8 v9 v10 v11 v12 v13 v14 v15 => (⟨v1, (⟨v2, v3, v4, v5, v6, v7, (⟨v8, v12⟩ : DSend), (⟨v9, v13, v10, v14⟩ : DTake)⟩ : DEnd), v15, v11⟩ : DActed)) false
theorem ok_impl_EndPush (k : Nat) : SummOk Try.prog cod 39 (S_impl_EndPush k) := sumOk codOk Try.f39 (fun k => lookT [(46, S_impl_ValidEnd k), (98, S_impl_SendPush k), (58, S_impl_copyEnd k)]) [] false [.cell 4 45] 0 [] mixed Try.func39 (by kernel_rfl) (by kernel_rfl) (by kernel_rfl) (by kernel_rfl)
  (fun k => Known.of tok eok codOk (all_cons (ok_impl_ValidEnd k) (all_cons (ok_impl_SendPush k) (all_cons (ok_impl_copyEnd k) (all_nil)))))
  (fun k => QuietOk.of (all_cons (fun h r => ⟨rfl, rfl⟩) (all_cons (fun h r => by cases h) (all_cons (fun h r => by cases h) (all_nil)))))
  (fun a => rfl)
  (all_nil)
  (fun k => by (repeat intro _); show _ = _; kernel_rfl)
noncomputable def S_impl_TakePull (k : Nat) : Summ K TyK := sm cod (DTake × ByteArray × Bool) [.bo] [.g [.i .i64, .l true .held, .s, .l true .str]] [] (fun k v1 v2 v3 v4 => impl_TakePull k (⟨v1, v2, v3, v4⟩ : DTake)) k [.g [.i .i64, .o 0, .s, .o 1], .c (.s), .c (.b)] [.l .held, .l .str] (fun r => (r.1.Next, (), r.1.Open, (), r.2.1, r.2.2, r.1.Held, r.1.Ready, ())) (fun v1 v2 v3 v4 v5 v6 => ((⟨v1, v5, v2, v6⟩ : DTake), v3, v4)) false
theorem ok_impl_TakePull (k : Nat) : SummOk Try.prog cod 99 (S_impl_TakePull k) := sumOk codOk Try.f99 (fun k => lookT [(110, S_impl_ValidTake k), (127, S_impl_copyTake k), (128, S_impl_flow k)]) [] false [.cell 2 40, .tmp 3, .tmp 4] 0 [] mixed Try.func99 (by kernel_rfl) (by kernel_rfl) (by kernel_rfl) (by kernel_rfl)
  (fun k => Known.of tok eok codOk (all_cons (ok_impl_ValidTake k) (all_cons (ok_impl_copyTake k) (all_cons (ok_impl_flow k) (all_nil)))))
  (fun k => QuietOk.of (all_cons (fun h r => ⟨rfl, rfl⟩) (all_cons (fun h r => by cases h) (all_cons (fun h r => by cases h) (all_nil)))))
  (fun a => rfl)
  (all_nil)
  (fun k => by (repeat intro _); show _ = _; kernel_rfl)
noncomputable def S_impl_EndPull (k : Nat) : Summ K TyK := sm cod (DActed) [.bo] [.g [.i .i64, .b, .i .i64, .i .i64, .i .i64, .b, .i .i64, .l true .item, .i .i64, .l true .held, .s, .l true .str]] [] (fun k v1 v2 v3 v4 v5 v6 v7 v8 v9 v10 v11 v12 => impl_EndPull k (⟨v1, v2, v3, v4, v5, v6, (⟨v7, v8⟩ : DSend), (⟨v9, v10, v11, v12⟩ : DTake)⟩ : DEnd)) k [.g [.i .i64, .i .i64, .b, .i .i64, .i .i64, .i .i64, .b, .i .i64, .o 0, .i .i64, .o 1, .s, .o 2, .o 3, .s]] [.l .item, .l .held, .l .str, .l .packet] (fun r => (r.Code, r.End.Number, r.End.Up, r.End.Life, r.End.Peer, r.End.Since, r.End.Owes, r.End.Send.Base, (), r.End.Take.Next, (), r.End.Take.Open, (), (), r.Text, r.End.Send.Items, r.End.Take.Held, r.End.Take.Ready, r.Out, ())) (fun v1 v2 v3 v4 v5 v6 v7 v8 v9 v10 v11 v12 v13 v14 v15 => (⟨v1, (⟨v2, v3, v4, v5, v6, v7, (⟨v8, v12⟩ : DSend), (⟨v9, v13, v10, v14⟩ : DTake)⟩ : DEnd), v15, v11⟩ : DActed)) false
theorem ok_impl_EndPull (k : Nat) : SummOk Try.prog cod 40 (S_impl_EndPull k) := sumOk codOk Try.f40 (fun k => lookT [(46, S_impl_ValidEnd k), (99, S_impl_TakePull k), (58, S_impl_copyEnd k)]) [] false [.cell 2 45] 0 [] mixed Try.func40 (by kernel_rfl) (by kernel_rfl) (by kernel_rfl) (by kernel_rfl)
  (fun k => Known.of tok eok codOk (all_cons (ok_impl_ValidEnd k) (all_cons (ok_impl_TakePull k) (all_cons (ok_impl_copyEnd k) (all_nil)))))
  (fun k => QuietOk.of (all_cons (fun h r => ⟨rfl, rfl⟩) (all_cons (fun h r => by cases h) (all_cons (fun h r => by cases h) (all_nil)))))
  (fun a => rfl)
  (all_nil)
  (fun k => by (repeat intro _); show _ = _; kernel_rfl)
noncomputable def S_impl_World_pull (k : Nat) : Summ K TyK := sm cod (DWorld) [.mv, .mv] [.c (.r 0 0), .c (.i .i64)] [.x [.s, .i .i64, .o 1, .o 2, .s, .o 3, .o 4], .l .end, .l .parcel, .l .record, .l .record] (fun k v1 v2 v3 v4 v5 v6 v7 v8 => impl_World_pull k (⟨v2, v3, v5, v6, v4, v7, v8⟩ : DWorld) v1) k [] [.x [.s, .i .i64, .o 5, .o 6, .s, .o 7, .o 8], .d, .d, .d, .d, .l .end, .l .parcel, .l .record, .l .record] (fun r => (r.Key, r.Width, (), (), r.Forged, (), (), r.Ends, r.Flight, r.Given, r.Taken, ())) (fun v1 v2 v3 v4 v5 v6 v7 => (⟨v1, v2, v4, v5, v3, v6, v7⟩ : DWorld)) false
theorem ok_impl_World_pull (k : Nat) : SummOk Try.prog cod 82 (S_impl_World_pull k) := sumOk codOk Try.f82 (fun k => lookT [(81, S_impl_World_full k), (40, S_impl_EndPull k)]) [] false [] 5 [false, true, true, true, true] mixed Try.func82 (by kernel_rfl) (by kernel_rfl) (by kernel_rfl) (by kernel_rfl)
  (fun k => Known.of tok eok codOk (all_cons (ok_impl_World_full k) (all_cons (ok_impl_EndPull k) (all_nil))))
  (fun k => QuietOk.of (all_cons (fun h r => by cases h) (all_cons (fun h r => by cases h) (all_nil))))
  (fun a => rfl)
  (all_nil)
  (fun k => by (repeat intro _); show _ = _; kernel_rfl)
noncomputable def S_impl_Do (k : Nat) : Summ K TyK := sm cod (DWorld) [.bo, .bo] [.g [.s, .i .i64, .l true .end, .l true .parcel, .s, .l true .record, .l true .record], .g [.i .i64, .i .i64, .i .i64, .i .i64, .s]] [] (fun k v1 v2 v3 v4 v5 v6 v7 v8 v9 v10 v11 v12 => impl_Do k (⟨v1, v2, v3, v4, v5, v6, v7⟩ : DWorld) (⟨v8, v9, v10, v11, v12⟩ : DEvent)) k [.g [.s, .i .i64, .o 0, .o 1, .s, .o 2, .o 3]] [.l .end, .l .parcel, .l .record, .l .record] (fun r => (r.Key, r.Width, (), (), r.Forged, (), (), r.Ends, r.Flight, r.Given, r.Taken, ())) (fun v1 v2 v3 v4 v5 v6 v7 => (⟨v1, v2, v4, v5, v3, v6, v7⟩ : DWorld)) false
noncomputable abbrev L_impl_Do : List (Nat × Cut K TyK (DWorld)) := [(5, ct cod [3, 4, 5, 6] [.c (.r 0 0), .c (.r 1 0), .c (.r 2 0), .c (.b)] [.x [.i .i64, .i .i64, .i .i64, .i .i64, .s], .x [.s, .i .i64, .o 3, .o 4, .s, .o 5, .o 6], .x [.s, .i .i64, .o 7, .o 8, .s, .o 9, .o 10], .l .end, .l .parcel, .l .record, .l .record, .l .end, .l .parcel, .l .record, .l .record] impl_Do_l5),
  (6, ct cod [3, 4, 5, 6, 7] [.c (.r 0 0), .c (.r 1 0), .c (.r 2 0), .c (.b), .c (.b)] [.x [.i .i64, .i .i64, .i .i64, .i .i64, .s], .x [.s, .i .i64, .o 3, .o 4, .s, .o 5, .o 6], .x [.s, .i .i64, .o 7, .o 8, .s, .o 9, .o 10], .l .end, .l .parcel, .l .record, .l .record, .l .end, .l .parcel, .l .record, .l .record] impl_Do_l6),
  (45, ct cod [4, 5] [.c (.r 0 0), .c (.r 1 0)] [.x [.s, .i .i64, .o 2, .o 3, .s, .o 4, .o 5], .x [.s, .i .i64, .o 6, .o 7, .s, .o 8, .o 9], .l .end, .l .parcel, .l .record, .l .record, .l .end, .l .parcel, .l .record, .l .record] impl_Do_l45),
  (11, ct cod [3, 4, 5, 7] [.c (.r 0 0), .c (.r 1 0), .c (.r 2 0), .c (.b)] [.x [.i .i64, .i .i64, .i .i64, .i .i64, .s], .x [.s, .i .i64, .o 3, .o 4, .s, .o 5, .o 6], .x [.s, .i .i64, .o 7, .o 8, .s, .o 9, .o 10], .l .end, .l .parcel, .l .record, .l .record, .l .end, .l .parcel, .l .record, .l .record] impl_Do_l11),
  (16, ct cod [3, 4, 5, 6, 7, 37] [.c (.r 0 0), .c (.r 1 0), .c (.r 2 0), .c (.b), .c (.b), .c (.i .i64)] [.x [.i .i64, .i .i64, .i .i64, .i .i64, .s], .x [.s, .i .i64, .o 3, .o 4, .s, .o 5, .o 6], .x [.s, .i .i64, .o 7, .o 8, .s, .o 9, .o 10], .l .end, .l .parcel, .l .record, .l .record, .l .end, .l .parcel, .l .record, .l .record] impl_Do_l16)]
theorem ok_impl_Do (k : Nat) : SummOk Try.prog cod 29 (S_impl_Do k) := sumOk codOk Try.f29 (fun k => lookT [(27, S_impl_ValidWorld k), (78, S_impl_copyWorld k), (79, S_impl_World_tick k), (80, S_impl_World_bring k), (48, S_impl_EndFall k), (47, S_impl_EndRise k), (81, S_impl_World_full k), (39, S_impl_EndPush k), (82, S_impl_World_pull k)]) L_impl_Do false [.cell 4 60] 0 [] mixed Try.func29 (by kernel_rfl) (by kernel_rfl) (by kernel_rfl) (by kernel_rfl)
  (fun k => Known.of tok eok codOk (all_cons (ok_impl_ValidWorld k) (all_cons (ok_impl_copyWorld k) (all_cons (ok_impl_World_tick k) (all_cons (ok_impl_World_bring k) (all_cons (ok_impl_EndFall k) (all_cons (ok_impl_EndRise k) (all_cons (ok_impl_World_full k) (all_cons (ok_impl_EndPush k) (all_cons (ok_impl_World_pull k) (all_nil)))))))))))
  (fun k => QuietOk.of (all_cons (fun h r => ⟨rfl, rfl⟩) (all_cons (fun h r => by cases h) (all_cons (fun h r => by cases h) (all_cons (fun h r => by cases h) (all_cons (fun h r => by cases h) (all_cons (fun h r => by cases h) (all_cons (fun h r => by cases h) (all_cons (fun h r => by cases h) (all_cons (fun h r => by cases h) (all_nil)))))))))))
  (fun a => rfl)
  (all_cons (ctGood codOk (by kernel_rfl) (by (repeat intro _); show _ = _; kernel_rfl) (fun k => by (repeat intro _); show _ = _; kernel_rfl)) (all_cons (ctGood codOk (by kernel_rfl) (by (repeat intro _); show _ = _; kernel_rfl) (fun k => by (repeat intro _); show _ = _; kernel_rfl)) (all_cons (ctGood codOk (by kernel_rfl) (by (repeat intro _); show _ = _; kernel_rfl) (fun k => by (repeat intro _); show _ = _; kernel_rfl)) (all_cons (ctGood codOk (by kernel_rfl) (by (repeat intro _); show _ = _; kernel_rfl) (fun k => by (repeat intro _); show _ = _; kernel_rfl)) (all_cons (ctGood codOk (by kernel_rfl) (by (repeat intro _); show _ = _; kernel_rfl) (fun k => by (repeat intro _); show _ = _; kernel_rfl)) (all_nil))))))
  (fun k => by (repeat intro _); show _ = _; kernel_rfl)
noncomputable def S_spec_DrawEvents (k : Nat) : Summ K TyK := sm cod (List DEvent) [.pe] [.c (.l false .byte)] [] (spec_DrawEvents) k [.c (.o 0)] [.l .event] (fun r => ((), r, ())) (fun v1 => v1) false
noncomputable abbrev L_spec_DrawEvents : List (Nat × Cut K TyK (List DEvent)) := [(5, ct cod [3, 4, 5, 6] [.c (.r 0 0), .c (.o 1), .c (.i .i64), .c (.i .i64)] [.x [.l false .byte, .i .i64], .l .event] spec_DrawEvents_l5),
  (10, ct cod [3, 4, 5, 6, 7] [.c (.r 0 0), .c (.o 1), .c (.i .i64), .c (.i .i64), .c (.i .i64)] [.x [.l false .byte, .i .i64], .l .event] spec_DrawEvents_l10),
  (17, ct cod [3, 4, 5, 6] [.c (.r 0 0), .c (.o 1), .c (.i .i64), .c (.i .i64)] [.x [.l false .byte, .i .i64], .l .event] spec_DrawEvents_l17),
  (14, ct cod [3, 4, 5, 6, 7, 8] [.c (.r 0 0), .c (.o 1), .c (.i .i64), .c (.i .i64), .c (.i .i64), .c (.i .i64)] [.x [.l false .byte, .i .i64], .l .event] spec_DrawEvents_l14),
  (6, ct cod [3, 4, 5, 6] [.c (.r 0 0), .c (.o 1), .c (.i .i64), .c (.i .i64)] [.x [.l false .byte, .i .i64], .l .event] spec_DrawEvents_l6)]
theorem ok_spec_DrawEvents (k : Nat) : SummOk Try.prog cod 32 (S_spec_DrawEvents k) := sumOk codOk Try.f32 (fun k => lookT [(70, S_spec_l1Open k), (73, S_spec_l1Rd_pick k), (87, S_spec_l7Event k)]) L_spec_DrawEvents false [.tmp 2] 0 [] mixed Try.func32 (by kernel_rfl) (by kernel_rfl) (by kernel_rfl) (by kernel_rfl)
  (fun k => Known.of tok eok codOk (all_cons (ok_spec_l1Open k) (all_cons (ok_spec_l1Rd_pick k) (all_cons (ok_spec_l7Event k) (all_nil)))))
  (fun k => QuietOk.of (all_cons (fun h r => by cases h) (all_cons (fun h r => by cases h) (all_cons (fun h r => by cases h) (all_nil)))))
  (fun a => rfl)
  (all_cons (ctGood codOk (by kernel_rfl) (by (repeat intro _); show _ = _; kernel_rfl) (fun k => by (repeat intro _); show _ = _; kernel_rfl)) (all_cons (ctGood codOk (by kernel_rfl) (by (repeat intro _); show _ = _; kernel_rfl) (fun k => by (repeat intro _); show _ = _; kernel_rfl)) (all_cons (ctGood codOk (by kernel_rfl) (by (repeat intro _); show _ = _; kernel_rfl) (fun k => by (repeat intro _); show _ = _; kernel_rfl)) (all_cons (ctGood codOk (by kernel_rfl) (by (repeat intro _); show _ = _; kernel_rfl) (fun k => by (repeat intro _); show _ = _; kernel_rfl)) (all_cons (ctGood codOk (by kernel_rfl) (by (repeat intro _); show _ = _; kernel_rfl) (fun k => by (repeat intro _); show _ = _; kernel_rfl)) (all_nil))))))
  (fun k => by (repeat intro _); show _ = _; kernel_rfl)
noncomputable def S_laws_wForgery (k : Nat) : Summ K TyK := sm cod (Bool) [.bo, .bo] [.g [.s, .i .i64, .l true .end, .l true .parcel, .s, .l true .record, .l true .record], .g [.i .i64, .i .i64, .i .i64, .i .i64, .s]] [] (fun k v1 v2 v3 v4 v5 v6 v7 v8 v9 v10 v11 v12 => laws_wForgery k (⟨v1, v2, v3, v4, v5, v6, v7⟩ : DWorld) (⟨v8, v9, v10, v11, v12⟩ : DEvent)) k [.c (.b)] [] (fun r => (r, ())) (fun v1 => v1) true
theorem ok_laws_wForgery (k : Nat) : SummOk Try.prog cod 33 (S_laws_wForgery k) := sumOk codOk Try.f33 (fun k => lookT [(88, S_spec_ReadPacket k)]) [] false [.tmp 4] 0 [] mixed Try.func33 (by kernel_rfl) (by kernel_rfl) (by kernel_rfl) (by kernel_rfl)
  (fun k => Known.of tok eok codOk (all_cons (ok_spec_ReadPacket k) (all_nil)))
  (fun k => QuietOk.of (all_cons (fun h r => ⟨rfl, rfl⟩) (all_nil)))
  (fun a => rfl)
  (all_nil)
  (fun k => by (repeat intro _); show _ = _; kernel_rfl)
noncomputable def S_laws_FnSafe (k : Nat) : Summ K TyK := sm cod (Bool) [.pe, .pe] [.c (.l false .byte), .c (.l false .byte)] [] (laws_FnSafe) k [.c (.b)] [] (fun r => (r, ())) (fun v1 => v1) true
noncomputable abbrev L_laws_FnSafe : List (Nat × Cut K TyK (Bool)) := [(6, ct cod [5, 6, 7] [.c (.r 0 0), .c (.o 1), .c (.i .i64)] [.x [.s, .i .i64, .o 2, .o 3, .s, .o 4, .o 5], .l .event, .l .end, .l .parcel, .l .record, .l .record] laws_FnSafe_l6),
  (14, ct cod [5, 6, 7, 8, 9] [.c (.r 0 0), .c (.o 1), .c (.i .i64), .c (.r 2 0), .c (.i .i64)] [.x [.s, .i .i64, .o 3, .o 4, .s, .o 5, .o 6], .l .event, .x [.s, .i .i64, .o 7, .o 8, .s, .o 9, .o 10], .l .end, .l .parcel, .l .record, .l .record, .l .end, .l .parcel, .l .record, .l .record] laws_FnSafe_l14)]
theorem ok_laws_FnSafe (k : Nat) : SummOk Try.prog cod 6 (S_laws_FnSafe k) := sumOk codOk Try.f6 (fun k => lookT [(26, S_spec_DrawReached k), (32, S_spec_DrawEvents k), (33, S_laws_wForgery k), (29, S_impl_Do k), (22, S_impl_Right k), (23, S_spec_Right k), (34, S_spec_ValidWorld k)]) L_laws_FnSafe false [.tmp 4] 0 [] mixed Try.func6 (by kernel_rfl) (by kernel_rfl) (by kernel_rfl) (by kernel_rfl)
  (fun k => Known.of tok eok codOk (all_cons (ok_spec_DrawReached k) (all_cons (ok_spec_DrawEvents k) (all_cons (ok_laws_wForgery k) (all_cons (ok_impl_Do k) (all_cons (ok_impl_Right k) (all_cons (ok_spec_Right k) (all_cons (ok_spec_ValidWorld k) (all_nil)))))))))
  (fun k => QuietOk.of (all_cons (fun h r => by cases h) (all_cons (fun h r => by cases h) (all_cons (fun h r => ⟨rfl, rfl⟩) (all_cons (fun h r => by cases h) (all_cons (fun h r => ⟨rfl, rfl⟩) (all_cons (fun h r => ⟨rfl, rfl⟩) (all_cons (fun h r => ⟨rfl, rfl⟩) (all_nil)))))))))
  (fun a => rfl)
  (all_cons (ctGood codOk (by kernel_rfl) (by (repeat intro _); show _ = _; kernel_rfl) (fun k => by (repeat intro _); show _ = _; kernel_rfl)) (all_cons (ctGood codOk (by kernel_rfl) (by (repeat intro _); show _ = _; kernel_rfl) (fun k => by (repeat intro _); show _ = _; kernel_rfl)) (all_nil)))
  (fun k => by (repeat intro _); show _ = _; kernel_rfl)
end Km.X
