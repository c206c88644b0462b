/- A part of the proof of FnExactNewWorld: each function does what its reading says. There is no condition. -/
import Derived.Test.YthafpbpfnkncmaaKmSeat
import Derived.Test.YthafpbpfnkncmaaKxDef2
namespace Km.X
open Go Km Go.Proofs
set_option linter.unusedVariables false
set_option maxRecDepth 100000
set_option maxHeartbeats 4000000
noncomputable def S_spec_l1In (k : Nat) : Summ K TyK := sm cod (Bool) [.bo, .bo, .bo] [.c (.i .i64), .c (.i .i64), .c (.i .i64)] [] (spec_l1In) k [.c (.b)] [] (fun r => (r, ())) (fun v1 => v1) true
theorem ok_spec_l1In (k : Nat) : SummOk Try.prog cod 78 (S_spec_l1In k) := sumOk codOk Try.f78 (fun k => lookT []) [] false [.tmp 6] 0 [] mixed Try.func78 (by kernel_rfl) (by kernel_rfl) (by kernel_rfl) (by kernel_rfl)
  (fun k => Known.of tok eok codOk (all_nil))
  (fun k => QuietOk.of (all_nil))
  (fun a => rfl)
  (all_nil)
  (fun k => by (repeat intro _); show _ = _; kernel_rfl)
noncomputable def S_laws_eqPart (k : Nat) : Summ K TyK := sm cod (Bool) [.bo, .bo] [.g [.s, .b], .g [.s, .b]] [] (fun k v1 v2 v3 v4 => laws_eqPart k (⟨v1, v2⟩ : DPart) (⟨v3, v4⟩ : DPart)) k [.c (.b)] [] (fun r => (r, ())) (fun v1 => v1) true
theorem ok_laws_eqPart (k : Nat) : SummOk Try.prog cod 140 (S_laws_eqPart k) := sumOk codOk Try.f140 (fun k => lookT []) [] false [.tmp 4] 0 [] mixed Try.func140 (by kernel_rfl) (by kernel_rfl) (by kernel_rfl) (by kernel_rfl)
  (fun k => Known.of tok eok codOk (all_nil))
  (fun k => QuietOk.of (all_nil))
  (fun a => rfl)
  (all_nil)
  (fun k => by (repeat intro _); show _ = _; kernel_rfl)
noncomputable def S_laws_eqHeld (k : Nat) : Summ K TyK := sm cod (Bool) [.bo, .bo] [.g [.i .i64, .s, .b], .g [.i .i64, .s, .b]] [] (fun k v1 v2 v3 v4 v5 v6 => laws_eqHeld k (⟨v1, (⟨v2, v3⟩ : DPart)⟩ : DHeld) (⟨v4, (⟨v5, v6⟩ : DPart)⟩ : DHeld)) k [.c (.b)] [] (fun r => (r, ())) (fun v1 => v1) true
theorem ok_laws_eqHeld (k : Nat) : SummOk Try.prog cod 122 (S_laws_eqHeld k) := sumOk codOk Try.f122 (fun k => lookT [(140, S_laws_eqPart k)]) [] false [.tmp 4] 0 [] mixed Try.func122 (by kernel_rfl) (by kernel_rfl) (by kernel_rfl) (by kernel_rfl)
  (fun k => Known.of tok eok codOk (all_cons (ok_laws_eqPart k) (all_nil)))
  (fun k => QuietOk.of (all_cons (fun h r => ⟨rfl, rfl⟩) (all_nil)))
  (fun a => rfl)
  (all_nil)
  (fun k => by (repeat intro _); show _ = _; kernel_rfl)
noncomputable def S_laws_eqHeldS (k : Nat) : Summ K TyK := sm cod (Bool) [.bo, .bo] [.c (.l true .held), .c (.l true .held)] [] (laws_eqHeldS) k [.c (.b)] [] (fun r => (r, ())) (fun v1 => v1) true
noncomputable abbrev L_laws_eqHeldS : List (Nat × Cut K TyK (Bool)) := [(4, ct cod [0, 1, 5] [.c (.l true .held), .c (.l true .held), .c (.i .i64)] [] laws_eqHeldS_l4)]
theorem ok_laws_eqHeldS (k : Nat) : SummOk Try.prog cod 69 (S_laws_eqHeldS k) := sumOk codOk Try.f69 (fun k => lookT [(122, S_laws_eqHeld k)]) L_laws_eqHeldS false [.tmp 4] 0 [] mixed Try.func69 (by kernel_rfl) (by kernel_rfl) (by kernel_rfl) (by kernel_rfl)
  (fun k => Known.of tok eok codOk (all_cons (ok_laws_eqHeld k) (all_nil)))
  (fun k => QuietOk.of (all_cons (fun h r => ⟨rfl, rfl⟩) (all_nil)))
  (fun a => rfl)
  (all_cons (ctGood codOk (by kernel_rfl) (by (repeat intro _); show _ = _; kernel_rfl) (fun k => by (repeat intro _); show _ = _; kernel_rfl)) (all_nil))
  (fun k => by (repeat intro _); show _ = _; kernel_rfl)
noncomputable def S_laws_eqStringS (k : Nat) : Summ K TyK := sm cod (Bool) [.bo, .bo] [.c (.l true .str), .c (.l true .str)] [] (laws_eqStringS) k [.c (.b)] [] (fun r => (r, ())) (fun v1 => v1) true
noncomputable abbrev L_laws_eqStringS : List (Nat × Cut K TyK (Bool)) := [(4, ct cod [0, 1, 5] [.c (.l true .str), .c (.l true .str), .c (.i .i64)] [] laws_eqStringS_l4)]
theorem ok_laws_eqStringS (k : Nat) : SummOk Try.prog cod 70 (S_laws_eqStringS k) := sumOk codOk Try.f70 (fun k => lookT []) L_laws_eqStringS false [.tmp 4] 0 [] mixed Try.func70 (by kernel_rfl) (by kernel_rfl) (by kernel_rfl) (by kernel_rfl)
  (fun k => Known.of tok eok codOk (all_nil))
  (fun k => QuietOk.of (all_nil))
  (fun a => rfl)
  (all_cons (ctGood codOk (by kernel_rfl) (by (repeat intro _); show _ = _; kernel_rfl) (fun k => by (repeat intro _); show _ = _; kernel_rfl)) (all_nil))
  (fun k => by (repeat intro _); show _ = _; kernel_rfl)
noncomputable def S_laws_eqTake (k : Nat) : Summ K TyK := sm cod (Bool) [.bo, .bo] [.g [.i .i64, .l true .held, .s, .l true .str], .g [.i .i64, .l true .held, .s, .l true .str]] [] (fun k v1 v2 v3 v4 v5 v6 v7 v8 => laws_eqTake k (⟨v1, v2, v3, v4⟩ : DTake) (⟨v5, v6, v7, v8⟩ : DTake)) k [.c (.b)] [] (fun r => (r, ())) (fun v1 => v1) true
theorem ok_laws_eqTake (k : Nat) : SummOk Try.prog cod 19 (S_laws_eqTake k) := sumOk codOk Try.f19 (fun k => lookT [(69, S_laws_eqHeldS k), (70, S_laws_eqStringS k)]) [] false [.tmp 4] 0 [] mixed Try.func19 (by kernel_rfl) (by kernel_rfl) (by kernel_rfl) (by kernel_rfl)
  (fun k => Known.of tok eok codOk (all_cons (ok_laws_eqHeldS k) (all_cons (ok_laws_eqStringS k) (all_nil))))
  (fun k => QuietOk.of (all_cons (fun h r => ⟨rfl, rfl⟩) (all_cons (fun h r => ⟨rfl, rfl⟩) (all_nil))))
  (fun a => rfl)
  (all_nil)
  (fun k => by (repeat intro _); show _ = _; kernel_rfl)
noncomputable def S_laws_markText (k : Nat) : Summ K TyK := sm cod (ByteArray) [.bo] [.c (.i .i64)] [] (laws_markText) k [.c (.s)] [] (fun r => (r, ())) (fun v1 => v1) true
noncomputable abbrev L_laws_markText : List (Nat × Cut K TyK (ByteArray)) := [(4, ct cod [0, 3] [.c (.i .i64), .c (.s)] [] laws_markText_l4)]
theorem ok_laws_markText (k : Nat) : SummOk Try.prog cod 123 (S_laws_markText k) := sumOk codOk Try.f123 (fun k => lookT []) L_laws_markText false [.tmp 2] 0 [] mixed Try.func123 (by kernel_rfl) (by kernel_rfl) (by kernel_rfl) (by kernel_rfl)
  (fun k => Known.of tok eok codOk (all_nil))
  (fun k => QuietOk.of (all_nil))
  (fun a => rfl)
  (all_cons (ctGood codOk (by kernel_rfl) (by (repeat intro _); show _ = _; kernel_rfl) (fun k => by (repeat intro _); show _ = _; kernel_rfl)) (all_nil))
  (fun k => by (repeat intro _); show _ = _; kernel_rfl)
noncomputable def S_laws_markHeldS_e (k : Nat) : Summ K TyK := sm cod (Int) [.pe, .bo] [.c (.l false .held), .c (.i .i64)] [] (laws_markHeldS_e) k [.c (.i .i64)] [] (fun r => (r, ())) (fun v1 => v1) true
noncomputable abbrev L_laws_markHeldS_e : List (Nat × Cut K TyK (Int)) := [(2, ct cod [0, 1, 5] [.c (.l false .held), .c (.i .i64), .c (.i .i64)] [] laws_markHeldS_e_l2)]
theorem ok_laws_markHeldS_e (k : Nat) : SummOk Try.prog cod 71 (S_laws_markHeldS_e k) := sumOk codOk Try.f71 (fun k => lookT [(123, S_laws_markText k)]) L_laws_markHeldS_e false [.tmp 4] 0 [] mixed Try.func71 (by kernel_rfl) (by kernel_rfl) (by kernel_rfl) (by kernel_rfl)
  (fun k => Known.of tok eok codOk (all_cons (ok_laws_markText k) (all_nil)))
  (fun k => QuietOk.of (all_cons (fun h r => ⟨rfl, rfl⟩) (all_nil)))
  (fun a => rfl)
  (all_cons (ctGood codOk (by kernel_rfl) (by (repeat intro _); show _ = _; kernel_rfl) (fun k => by (repeat intro _); show _ = _; kernel_rfl)) (all_nil))
  (fun k => by (repeat intro _); show _ = _; kernel_rfl)
noncomputable def S_laws_markStringS_e (k : Nat) : Summ K TyK := sm cod (Int) [.pe, .bo] [.c (.l false .str), .c (.i .i64)] [] (laws_markStringS_e) k [.c (.i .i64)] [] (fun r => (r, ())) (fun v1 => v1) true
noncomputable abbrev L_laws_markStringS_e : List (Nat × Cut K TyK (Int)) := [(2, ct cod [0, 1, 5] [.c (.l false .str), .c (.i .i64), .c (.i .i64)] [] laws_markStringS_e_l2)]
theorem ok_laws_markStringS_e (k : Nat) : SummOk Try.prog cod 72 (S_laws_markStringS_e k) := sumOk codOk Try.f72 (fun k => lookT [(123, S_laws_markText k)]) L_laws_markStringS_e false [.tmp 4] 0 [] mixed Try.func72 (by kernel_rfl) (by kernel_rfl) (by kernel_rfl) (by kernel_rfl)
  (fun k => Known.of tok eok codOk (all_cons (ok_laws_markText k) (all_nil)))
  (fun k => QuietOk.of (all_cons (fun h r => ⟨rfl, rfl⟩) (all_nil)))
  (fun a => rfl)
  (all_cons (ctGood codOk (by kernel_rfl) (by (repeat intro _); show _ = _; kernel_rfl) (fun k => by (repeat intro _); show _ = _; kernel_rfl)) (all_nil))
  (fun k => by (repeat intro _); show _ = _; kernel_rfl)
noncomputable def S_laws_heldHeldS (k : Nat) : Summ K TyK := sm cod (Int) [.bo, .bo] [.c (.l true .held), .c (.i .i64)] [] (laws_heldHeldS) k [.c (.i .i64)] [] (fun r => (r, ())) (fun v1 => v1) true
noncomputable abbrev L_laws_heldHeldS : List (Nat × Cut K TyK (Int)) := [(2, ct cod [0, 1, 5] [.c (.l true .held), .c (.i .i64), .c (.i .i64)] [] laws_heldHeldS_l2)]
theorem ok_laws_heldHeldS (k : Nat) : SummOk Try.prog cod 73 (S_laws_heldHeldS k) := sumOk codOk Try.f73 (fun k => lookT [(123, S_laws_markText k)]) L_laws_heldHeldS false [.tmp 4] 0 [] mixed Try.func73 (by kernel_rfl) (by kernel_rfl) (by kernel_rfl) (by kernel_rfl)
  (fun k => Known.of tok eok codOk (all_cons (ok_laws_markText k) (all_nil)))
  (fun k => QuietOk.of (all_cons (fun h r => ⟨rfl, rfl⟩) (all_nil)))
  (fun a => rfl)
  (all_cons (ctGood codOk (by kernel_rfl) (by (repeat intro _); show _ = _; kernel_rfl) (fun k => by (repeat intro _); show _ = _; kernel_rfl)) (all_nil))
  (fun k => by (repeat intro _); show _ = _; kernel_rfl)
noncomputable def S_laws_heldStringS (k : Nat) : Summ K TyK := sm cod (Int) [.bo, .bo] [.c (.l true .str), .c (.i .i64)] [] (laws_heldStringS) k [.c (.i .i64)] [] (fun r => (r, ())) (fun v1 => v1) true
noncomputable abbrev L_laws_heldStringS : List (Nat × Cut K TyK (Int)) := [(2, ct cod [0, 1, 5] [.c (.l true .str), .c (.i .i64), .c (.i .i64)] [] laws_heldStringS_l2)]
theorem ok_laws_heldStringS (k : Nat) : SummOk Try.prog cod 74 (S_laws_heldStringS k) := sumOk codOk Try.f74 (fun k => lookT [(123, S_laws_markText k)]) L_laws_heldStringS false [.tmp 4] 0 [] mixed Try.func74 (by kernel_rfl) (by kernel_rfl) (by kernel_rfl) (by kernel_rfl)
  (fun k => Known.of tok eok codOk (all_cons (ok_laws_markText k) (all_nil)))
  (fun k => QuietOk.of (all_cons (fun h r => ⟨rfl, rfl⟩) (all_nil)))
  (fun a => rfl)
  (all_cons (ctGood codOk (by kernel_rfl) (by (repeat intro _); show _ = _; kernel_rfl) (fun k => by (repeat intro _); show _ = _; kernel_rfl)) (all_nil))
  (fun k => by (repeat intro _); show _ = _; kernel_rfl)
noncomputable def S_laws_eqItem (k : Nat) : Summ K TyK := sm cod (Bool) [.bo, .bo] [.g [.s, .b, .b, .i .i64], .g [.s, .b, .b, .i .i64]] [] (fun k v1 v2 v3 v4 v5 v6 v7 v8 => laws_eqItem k (⟨(⟨v1, v2⟩ : DPart), v3, v4⟩ : DItem) (⟨(⟨v5, v6⟩ : DPart), v7, v8⟩ : DItem)) k [.c (.b)] [] (fun r => (r, ())) (fun v1 => v1) true
theorem ok_laws_eqItem (k : Nat) : SummOk Try.prog cod 143 (S_laws_eqItem k) := sumOk codOk Try.f143 (fun k => lookT [(140, S_laws_eqPart k)]) [] false [.tmp 4] 0 [] mixed Try.func143 (by kernel_rfl) (by kernel_rfl) (by kernel_rfl) (by kernel_rfl)
  (fun k => Known.of tok eok codOk (all_cons (ok_laws_eqPart k) (all_nil)))
  (fun k => QuietOk.of (all_cons (fun h r => ⟨rfl, rfl⟩) (all_nil)))
  (fun a => rfl)
  (all_nil)
  (fun k => by (repeat intro _); show _ = _; kernel_rfl)
noncomputable def S_laws_eqItemS (k : Nat) : Summ K TyK := sm cod (Bool) [.bo, .bo] [.c (.l true .item), .c (.l true .item)] [] (laws_eqItemS) k [.c (.b)] [] (fun r => (r, ())) (fun v1 => v1) true
noncomputable abbrev L_laws_eqItemS : List (Nat × Cut K TyK (Bool)) := [(4, ct cod [0, 1, 5] [.c (.l true .item), .c (.l true .item), .c (.i .i64)] [] laws_eqItemS_l4)]
theorem ok_laws_eqItemS (k : Nat) : SummOk Try.prog cod 126 (S_laws_eqItemS k) := sumOk codOk Try.f126 (fun k => lookT [(143, S_laws_eqItem k)]) L_laws_eqItemS false [.tmp 4] 0 [] mixed Try.func126 (by kernel_rfl) (by kernel_rfl) (by kernel_rfl) (by kernel_rfl)
  (fun k => Known.of tok eok codOk (all_cons (ok_laws_eqItem k) (all_nil)))
  (fun k => QuietOk.of (all_cons (fun h r => ⟨rfl, rfl⟩) (all_nil)))
  (fun a => rfl)
  (all_cons (ctGood codOk (by kernel_rfl) (by (repeat intro _); show _ = _; kernel_rfl) (fun k => by (repeat intro _); show _ = _; kernel_rfl)) (all_nil))
  (fun k => by (repeat intro _); show _ = _; kernel_rfl)
noncomputable def S_laws_eqSend (k : Nat) : Summ K TyK := sm cod (Bool) [.bo, .bo] [.g [.i .i64, .l true .item], .g [.i .i64, .l true .item]] [] (fun k v1 v2 v3 v4 => laws_eqSend k (⟨v1, v2⟩ : DSend) (⟨v3, v4⟩ : DSend)) k [.c (.b)] [] (fun r => (r, ())) (fun v1 => v1) true
theorem ok_laws_eqSend (k : Nat) : SummOk Try.prog cod 86 (S_laws_eqSend k) := sumOk codOk Try.f86 (fun k => lookT [(126, S_laws_eqItemS k)]) [] false [.tmp 4] 0 [] mixed Try.func86 (by kernel_rfl) (by kernel_rfl) (by kernel_rfl) (by kernel_rfl)
  (fun k => Known.of tok eok codOk (all_cons (ok_laws_eqItemS k) (all_nil)))
  (fun k => QuietOk.of (all_cons (fun h r => ⟨rfl, rfl⟩) (all_nil)))
  (fun a => rfl)
  (all_nil)
  (fun k => by (repeat intro _); show _ = _; kernel_rfl)
noncomputable def S_laws_eqEnd (k : Nat) : Summ K TyK := sm cod (Bool) [.bo, .bo] [.g [.i .i64, .b, .i .i64, .i .i64, .i .i64, .b, .i .i64, .l true .item, .i .i64, .l true .held, .s, .l true .str], .g [.i .i64, .b, .i .i64, .i .i64, .i .i64, .b, .i .i64, .l true .item, .i .i64, .l true .held, .s, .l true .str]] [] (fun k v1 v2 v3 v4 v5 v6 v7 v8 v9 v10 v11 v12 v13 v14 v15 v16 v17 v18 v19 v20 v21 v22 v23 v24 => laws_eqEnd k (⟨v1, v2, v3, v4, v5, v6, (⟨v7, v8⟩ : DSend), (⟨v9, v10, v11, v12⟩ : DTake)⟩ : DEnd) (⟨v13, v14, v15, v16, v17, v18, (⟨v19, v20⟩ : DSend), (⟨v21, v22, v23, v24⟩ : DTake)⟩ : DEnd)) k [.c (.b)] [] (fun r => (r, ())) (fun v1 => v1) true
theorem ok_laws_eqEnd (k : Nat) : SummOk Try.prog cod 30 (S_laws_eqEnd k) := sumOk codOk Try.f30 (fun k => lookT [(86, S_laws_eqSend k), (19, S_laws_eqTake k)]) [] false [.tmp 4] 0 [] mixed Try.func30 (by kernel_rfl) (by kernel_rfl) (by kernel_rfl) (by kernel_rfl)
  (fun k => Known.of tok eok codOk (all_cons (ok_laws_eqSend k) (all_cons (ok_laws_eqTake k) (all_nil))))
  (fun k => QuietOk.of (all_cons (fun h r => ⟨rfl, rfl⟩) (all_cons (fun h r => ⟨rfl, rfl⟩) (all_nil))))
  (fun a => rfl)
  (all_nil)
  (fun k => by (repeat intro _); show _ = _; kernel_rfl)
noncomputable def S_spec_NewEnd (k : Nat) : Summ K TyK := sm cod (DEnd) [.bo] [.c (.i .i64)] [] (spec_NewEnd) k [.g [.i .i64, .b, .i .i64, .i .i64, .i .i64, .b, .i .i64, .o 0, .i .i64, .o 1, .s, .o 2]] [.l .item, .l .held, .l .str] (fun r => (r.Number, r.Up, r.Life, r.Peer, r.Since, r.Owes, r.Send.Base, (), r.Take.Next, (), r.Take.Open, (), r.Send.Items, r.Take.Held, r.Take.Ready, ())) (fun v1 v2 v3 v4 v5 v6 v7 v8 v9 v10 v11 v12 => (⟨v1, v2, v3, v4, v5, v6, (⟨v7, v10⟩ : DSend), (⟨v8, v11, v9, v12⟩ : DTake)⟩ : DEnd)) false
theorem ok_spec_NewEnd (k : Nat) : SummOk Try.prog cod 87 (S_spec_NewEnd k) := sumOk codOk Try.f87 (fun k => lookT [(78, S_spec_l1In k)]) [] false [.cell 2 54] 0 [] mixed Try.func87 (by kernel_rfl) (by kernel_rfl) (by kernel_rfl) (by kernel_rfl)
  (fun k => Known.of tok eok codOk (all_cons (ok_spec_l1In k) (all_nil)))
  (fun k => QuietOk.of (all_cons (fun h r => ⟨rfl, rfl⟩) (all_nil)))
  (fun a => rfl)
  (all_nil)
  (fun k => by (repeat intro _); show _ = _; kernel_rfl)
noncomputable def S_spec_NewWorld (k : Nat) : Summ K TyK := sm cod (DWorld) [.bo, .bo] [.c (.s), .c (.i .i64)] [] (spec_NewWorld) k [.g [.s, .i .i64, .o 0, .o 1, .s, .o 2, .o 3]] [.l .end, .l .parcel, .l .record, .l .record] (fun r => (r.Key, r.Width, (), (), r.Forged, (), (), r.Ends, r.Flight, r.Given, r.Taken, ())) (fun v1 v2 v3 v4 v5 v6 v7 => (⟨v1, v2, v4, v5, v3, v6, v7⟩ : DWorld)) false
theorem ok_spec_NewWorld (k : Nat) : SummOk Try.prog cod 31 (S_spec_NewWorld k) := sumOk codOk Try.f31 (fun k => lookT [(78, S_spec_l1In k), (87, S_spec_NewEnd k)]) [] false [.cell 4 62] 0 [] mixed Try.func31 (by kernel_rfl) (by kernel_rfl) (by kernel_rfl) (by kernel_rfl)
  (fun k => Known.of tok eok codOk (all_cons (ok_spec_l1In k) (all_cons (ok_spec_NewEnd k) (all_nil))))
  (fun k => QuietOk.of (all_cons (fun h r => ⟨rfl, rfl⟩) (all_cons (fun h r => by cases h) (all_nil))))
  (fun a => rfl)
  (all_nil)
  (fun k => by (repeat intro _); show _ = _; kernel_rfl)
noncomputable def S_impl_NewEnd (k : Nat) : Summ K TyK := sm cod (DEnd) [.bo] [.c (.i .i64)] [] (impl_NewEnd) k [.g [.i .i64, .b, .i .i64, .i .i64, .i .i64, .b, .i .i64, .o 0, .i .i64, .o 1, .s, .o 2]] [.l .item, .l .held, .l .str] (fun r => (r.Number, r.Up, r.Life, r.Peer, r.Since, r.Owes, r.Send.Base, (), r.Take.Next, (), r.Take.Open, (), r.Send.Items, r.Take.Held, r.Take.Ready, ())) (fun v1 v2 v3 v4 v5 v6 v7 v8 v9 v10 v11 v12 => (⟨v1, v2, v3, v4, v5, v6, (⟨v7, v10⟩ : DSend), (⟨v8, v11, v9, v12⟩ : DTake)⟩ : DEnd)) false
theorem ok_impl_NewEnd (k : Nat) : SummOk Try.prog cod 88 (S_impl_NewEnd k) := sumOk codOk Try.f88 (fun k => lookT []) [] false [.cell 2 54] 0 [] mixed Try.func88 (by kernel_rfl) (by kernel_rfl) (by kernel_rfl) (by kernel_rfl)
  (fun k => Known.of tok eok codOk (all_nil))
  (fun k => QuietOk.of (all_nil))
  (fun a => rfl)
  (all_nil)
  (fun k => by (repeat intro _); show _ = _; kernel_rfl)
noncomputable def S_impl_NewWorld (k : Nat) : Summ K TyK := sm cod (DWorld) [.bo, .bo] [.c (.s), .c (.i .i64)] [] (impl_NewWorld) k [.g [.s, .i .i64, .o 0, .o 1, .s, .o 2, .o 3]] [.l .end, .l .parcel, .l .record, .l .record] (fun r => (r.Key, r.Width, (), (), r.Forged, (), (), r.Ends, r.Flight, r.Given, r.Taken, ())) (fun v1 v2 v3 v4 v5 v6 v7 => (⟨v1, v2, v4, v5, v3, v6, v7⟩ : DWorld)) false
theorem ok_impl_NewWorld (k : Nat) : SummOk Try.prog cod 32 (S_impl_NewWorld k) := sumOk codOk Try.f32 (fun k => lookT [(88, S_impl_NewEnd k)]) [] false [.cell 4 62] 0 [] mixed Try.func32 (by kernel_rfl) (by kernel_rfl) (by kernel_rfl) (by kernel_rfl)
  (fun k => Known.of tok eok codOk (all_cons (ok_impl_NewEnd k) (all_nil)))
  (fun k => QuietOk.of (all_cons (fun h r => by cases h) (all_nil)))
  (fun a => rfl)
  (all_nil)
  (fun k => by (repeat intro _); show _ = _; kernel_rfl)
noncomputable def S_laws_eqEndS (k : Nat) : Summ K TyK := sm cod (Bool) [.bo, .bo] [.c (.l true .end), .c (.l true .end)] [] (laws_eqEndS) k [.c (.b)] [] (fun r => (r, ())) (fun v1 => v1) true
noncomputable abbrev L_laws_eqEndS : List (Nat × Cut K TyK (Bool)) := [(4, ct cod [0, 1, 5] [.c (.l true .end), .c (.l true .end), .c (.i .i64)] [] laws_eqEndS_l4)]
theorem ok_laws_eqEndS (k : Nat) : SummOk Try.prog cod 89 (S_laws_eqEndS k) := sumOk codOk Try.f89 (fun k => lookT [(30, S_laws_eqEnd k)]) L_laws_eqEndS false [.tmp 4] 0 [] mixed Try.func89 (by kernel_rfl) (by kernel_rfl) (by kernel_rfl) (by kernel_rfl)
  (fun k => Known.of tok eok codOk (all_cons (ok_laws_eqEnd k) (all_nil)))
  (fun k => QuietOk.of (all_cons (fun h r => ⟨rfl, rfl⟩) (all_nil)))
  (fun a => rfl)
  (all_cons (ctGood codOk (by kernel_rfl) (by (repeat intro _); show _ = _; kernel_rfl) (fun k => by (repeat intro _); show _ = _; kernel_rfl)) (all_nil))
  (fun k => by (repeat intro _); show _ = _; kernel_rfl)
noncomputable def S_laws_eqParcel (k : Nat) : Summ K TyK := sm cod (Bool) [.bo, .bo] [.g [.i .i64, .s, .s], .g [.i .i64, .s, .s]] [] (fun k v1 v2 v3 v4 v5 v6 => laws_eqParcel k (⟨v1, v2, v3⟩ : DParcel) (⟨v4, v5, v6⟩ : DParcel)) k [.c (.b)] [] (fun r => (r, ())) (fun v1 => v1) true
theorem ok_laws_eqParcel (k : Nat) : SummOk Try.prog cod 127 (S_laws_eqParcel k) := sumOk codOk Try.f127 (fun k => lookT []) [] false [.tmp 4] 0 [] mixed Try.func127 (by kernel_rfl) (by kernel_rfl) (by kernel_rfl) (by kernel_rfl)
  (fun k => Known.of tok eok codOk (all_nil))
  (fun k => QuietOk.of (all_nil))
  (fun a => rfl)
  (all_nil)
  (fun k => by (repeat intro _); show _ = _; kernel_rfl)
noncomputable def S_laws_eqParcelS (k : Nat) : Summ K TyK := sm cod (Bool) [.bo, .bo] [.c (.l true .parcel), .c (.l true .parcel)] [] (laws_eqParcelS) k [.c (.b)] [] (fun r => (r, ())) (fun v1 => v1) true
noncomputable abbrev L_laws_eqParcelS : List (Nat × Cut K TyK (Bool)) := [(4, ct cod [0, 1, 5] [.c (.l true .parcel), .c (.l true .parcel), .c (.i .i64)] [] laws_eqParcelS_l4)]
theorem ok_laws_eqParcelS (k : Nat) : SummOk Try.prog cod 90 (S_laws_eqParcelS k) := sumOk codOk Try.f90 (fun k => lookT [(127, S_laws_eqParcel k)]) L_laws_eqParcelS false [.tmp 4] 0 [] mixed Try.func90 (by kernel_rfl) (by kernel_rfl) (by kernel_rfl) (by kernel_rfl)
  (fun k => Known.of tok eok codOk (all_cons (ok_laws_eqParcel k) (all_nil)))
  (fun k => QuietOk.of (all_cons (fun h r => ⟨rfl, rfl⟩) (all_nil)))
  (fun a => rfl)
  (all_cons (ctGood codOk (by kernel_rfl) (by (repeat intro _); show _ = _; kernel_rfl) (fun k => by (repeat intro _); show _ = _; kernel_rfl)) (all_nil))
  (fun k => by (repeat intro _); show _ = _; kernel_rfl)
noncomputable def S_laws_eqRecord (k : Nat) : Summ K TyK := sm cod (Bool) [.bo, .bo] [.g [.i .i64, .i .i64, .i .i64, .s], .g [.i .i64, .i .i64, .i .i64, .s]] [] (fun k v1 v2 v3 v4 v5 v6 v7 v8 => laws_eqRecord k (⟨v1, v2, v3, v4⟩ : DRecord) (⟨v5, v6, v7, v8⟩ : DRecord)) k [.c (.b)] [] (fun r => (r, ())) (fun v1 => v1) true
theorem ok_laws_eqRecord (k : Nat) : SummOk Try.prog cod 128 (S_laws_eqRecord k) := sumOk codOk Try.f128 (fun k => lookT []) [] false [.tmp 4] 0 [] mixed Try.func128 (by kernel_rfl) (by kernel_rfl) (by kernel_rfl) (by kernel_rfl)
  (fun k => Known.of tok eok codOk (all_nil))
  (fun k => QuietOk.of (all_nil))
  (fun a => rfl)
  (all_nil)
  (fun k => by (repeat intro _); show _ = _; kernel_rfl)
noncomputable def S_laws_eqRecordS (k : Nat) : Summ K TyK := sm cod (Bool) [.bo, .bo] [.c (.l true .record), .c (.l true .record)] [] (laws_eqRecordS) k [.c (.b)] [] (fun r => (r, ())) (fun v1 => v1) true
noncomputable abbrev L_laws_eqRecordS : List (Nat × Cut K TyK (Bool)) := [(4, ct cod [0, 1, 5] [.c (.l true .record), .c (.l true .record), .c (.i .i64)] [] laws_eqRecordS_l4)]
theorem ok_laws_eqRecordS (k : Nat) : SummOk Try.prog cod 91 (S_laws_eqRecordS k) := sumOk codOk Try.f91 (fun k => lookT [(128, S_laws_eqRecord k)]) L_laws_eqRecordS false [.tmp 4] 0 [] mixed Try.func91 (by kernel_rfl) (by kernel_rfl) (by kernel_rfl) (by kernel_rfl)
  (fun k => Known.of tok eok codOk (all_cons (ok_laws_eqRecord k) (all_nil)))
  (fun k => QuietOk.of (all_cons (fun h r => ⟨rfl, rfl⟩) (all_nil)))
  (fun a => rfl)
  (all_cons (ctGood codOk (by kernel_rfl) (by (repeat intro _); show _ = _; kernel_rfl) (fun k => by (repeat intro _); show _ = _; kernel_rfl)) (all_nil))
  (fun k => by (repeat intro _); show _ = _; kernel_rfl)
noncomputable def S_laws_eqWorld (k : Nat) : Summ K TyK := sm cod (Bool) [.bo, .bo] [.g [.s, .i .i64, .l true .end, .l true .parcel, .s, .l true .record, .l true .record], .g [.s, .i .i64, .l true .end, .l true .parcel, .s, .l true .record, .l true .record]] [] (fun k v1 v2 v3 v4 v5 v6 v7 v8 v9 v10 v11 v12 v13 v14 => laws_eqWorld k (⟨v1, v2, v3, v4, v5, v6, v7⟩ : DWorld) (⟨v8, v9, v10, v11, v12, v13, v14⟩ : DWorld)) k [.c (.b)] [] (fun r => (r, ())) (fun v1 => v1) true
theorem ok_laws_eqWorld (k : Nat) : SummOk Try.prog cod 33 (S_laws_eqWorld k) := sumOk codOk Try.f33 (fun k => lookT [(89, S_laws_eqEndS k), (90, S_laws_eqParcelS k), (91, S_laws_eqRecordS k)]) [] false [.tmp 4] 0 [] mixed Try.func33 (by kernel_rfl) (by kernel_rfl) (by kernel_rfl) (by kernel_rfl)
  (fun k => Known.of tok eok codOk (all_cons (ok_laws_eqEndS k) (all_cons (ok_laws_eqParcelS k) (all_cons (ok_laws_eqRecordS k) (all_nil)))))
  (fun k => QuietOk.of (all_cons (fun h r => ⟨rfl, rfl⟩) (all_cons (fun h r => ⟨rfl, rfl⟩) (all_cons (fun h r => ⟨rfl, rfl⟩) (all_nil)))))
  (fun a => rfl)
  (all_nil)
  (fun k => by (repeat intro _); show _ = _; kernel_rfl)
noncomputable def S_laws_markItemS_e (k : Nat) : Summ K TyK := sm cod (Int) [.pe, .bo] [.c (.l false .item), .c (.i .i64)] [] (laws_markItemS_e) k [.c (.i .i64)] [] (fun r => (r, ())) (fun v1 => v1) true
noncomputable abbrev L_laws_markItemS_e : List (Nat × Cut K TyK (Int)) := [(2, ct cod [0, 1, 5] [.c (.l false .item), .c (.i .i64), .c (.i .i64)] [] laws_markItemS_e_l2)]
theorem ok_laws_markItemS_e (k : Nat) : SummOk Try.prog cod 129 (S_laws_markItemS_e k) := sumOk codOk Try.f129 (fun k => lookT [(123, S_laws_markText k)]) L_laws_markItemS_e false [.tmp 4] 0 [] mixed Try.func129 (by kernel_rfl) (by kernel_rfl) (by kernel_rfl) (by kernel_rfl)
  (fun k => Known.of tok eok codOk (all_cons (ok_laws_markText k) (all_nil)))
  (fun k => QuietOk.of (all_cons (fun h r => ⟨rfl, rfl⟩) (all_nil)))
  (fun a => rfl)
  (all_cons (ctGood codOk (by kernel_rfl) (by (repeat intro _); show _ = _; kernel_rfl) (fun k => by (repeat intro _); show _ = _; kernel_rfl)) (all_nil))
  (fun k => by (repeat intro _); show _ = _; kernel_rfl)
noncomputable def S_laws_markEndS (k : Nat) : Summ K TyK := sm cod (Int × List DEnd) [.mv, .mv] [.c (.o 0), .c (.i .i64)] [.l .end] (fun k v1 v2 => laws_markEndS k v2 v1) k [.c (.i .i64)] [.l .end] (fun r => (r.1, r.2, ())) (fun v1 v2 => (v1, v2)) false
noncomputable abbrev L_laws_markEndS : List (Nat × Cut K TyK (Int × List DEnd)) := [(2, ct cod [0, 1, 5] [.c (.o 0), .c (.i .i64), .c (.i .i64)] [.l .end] laws_markEndS_l2)]
theorem ok_laws_markEndS (k : Nat) : SummOk Try.prog cod 92 (S_laws_markEndS k) := sumOk codOk Try.f92 (fun k => lookT [(129, S_laws_markItemS_e k), (71, S_laws_markHeldS_e k), (123, S_laws_markText k), (72, S_laws_markStringS_e k)]) L_laws_markEndS false [.tmp 4] 1 [false] mixed Try.func92 (by kernel_rfl) (by kernel_rfl) (by kernel_rfl) (by kernel_rfl)
  (fun k => Known.of tok eok codOk (all_cons (ok_laws_markItemS_e k) (all_cons (ok_laws_markHeldS_e k) (all_cons (ok_laws_markText k) (all_cons (ok_laws_markStringS_e k) (all_nil))))))
  (fun k => QuietOk.of (all_cons (fun h r => ⟨rfl, rfl⟩) (all_cons (fun h r => ⟨rfl, rfl⟩) (all_cons (fun h r => ⟨rfl, rfl⟩) (all_cons (fun h r => ⟨rfl, rfl⟩) (all_nil))))))
  (fun a => rfl)
  (all_cons (ctGood codOk (by kernel_rfl) (by (repeat intro _); show _ = _; kernel_rfl) (fun k => by (repeat intro _); show _ = _; kernel_rfl)) (all_nil))
  (fun k => by (repeat intro _); show _ = _; kernel_rfl)
noncomputable def S_laws_markParcelS (k : Nat) : Summ K TyK := sm cod (Int × List DParcel) [.mv, .mv] [.c (.o 0), .c (.i .i64)] [.l .parcel] (fun k v1 v2 => laws_markParcelS k v2 v1) k [.c (.i .i64)] [.l .parcel] (fun r => (r.1, r.2, ())) (fun v1 v2 => (v1, v2)) false
noncomputable abbrev L_laws_markParcelS : List (Nat × Cut K TyK (Int × List DParcel)) := [(2, ct cod [0, 1, 5] [.c (.o 0), .c (.i .i64), .c (.i .i64)] [.l .parcel] laws_markParcelS_l2)]
theorem ok_laws_markParcelS (k : Nat) : SummOk Try.prog cod 93 (S_laws_markParcelS k) := sumOk codOk Try.f93 (fun k => lookT [(123, S_laws_markText k)]) L_laws_markParcelS false [.tmp 4] 1 [false] mixed Try.func93 (by kernel_rfl) (by kernel_rfl) (by kernel_rfl) (by kernel_rfl)
  (fun k => Known.of tok eok codOk (all_cons (ok_laws_markText k) (all_nil)))
  (fun k => QuietOk.of (all_cons (fun h r => ⟨rfl, rfl⟩) (all_nil)))
  (fun a => rfl)
  (all_cons (ctGood codOk (by kernel_rfl) (by (repeat intro _); show _ = _; kernel_rfl) (fun k => by (repeat intro _); show _ = _; kernel_rfl)) (all_nil))
  (fun k => by (repeat intro _); show _ = _; kernel_rfl)
noncomputable def S_laws_markRecordS (k : Nat) : Summ K TyK := sm cod (Int × List DRecord) [.mv, .mv] [.c (.o 0), .c (.i .i64)] [.l .record] (fun k v1 v2 => laws_markRecordS k v2 v1) k [.c (.i .i64)] [.l .record] (fun r => (r.1, r.2, ())) (fun v1 v2 => (v1, v2)) false
noncomputable abbrev L_laws_markRecordS : List (Nat × Cut K TyK (Int × List DRecord)) := [(2, ct cod [0, 1, 5] [.c (.o 0), .c (.i .i64), .c (.i .i64)] [.l .record] laws_markRecordS_l2)]
theorem ok_laws_markRecordS (k : Nat) : SummOk Try.prog cod 94 (S_laws_markRecordS k) := sumOk codOk Try.f94 (fun k => lookT [(123, S_laws_markText k)]) L_laws_markRecordS false [.tmp 4] 1 [false] mixed Try.func94 (by kernel_rfl) (by kernel_rfl) (by kernel_rfl) (by kernel_rfl)
  (fun k => Known.of tok eok codOk (all_cons (ok_laws_markText k) (all_nil)))
  (fun k => QuietOk.of (all_cons (fun h r => ⟨rfl, rfl⟩) (all_nil)))
  (fun a => rfl)
  (all_cons (ctGood codOk (by kernel_rfl) (by (repeat intro _); show _ = _; kernel_rfl) (fun k => by (repeat intro _); show _ = _; kernel_rfl)) (all_nil))
  (fun k => by (repeat intro _); show _ = _; kernel_rfl)
noncomputable def S_laws_markWorld (k : Nat) : Summ K TyK := sm cod (Int × List DEnd × List DParcel × List DRecord × List DRecord) [.mv, .mv] [.g [.s, .i .i64, .o 0, .o 1, .s, .o 2, .o 3], .c (.i .i64)] [.l .end, .l .parcel, .l .record, .l .record] (fun k v1 v2 v3 v4 v5 v6 v7 v8 => laws_markWorld k (⟨v1, v2, v5, v6, v3, v7, v8⟩ : DWorld) v4) k [.c (.i .i64)] [.l .end, .l .parcel, .l .record, .l .record] (fun r => (r.1, r.2.1, r.2.2.1, r.2.2.2.1, r.2.2.2.2, ())) (fun v1 v2 v3 v4 v5 => (v1, v2, v3, v4, v5)) false
theorem ok_laws_markWorld (k : Nat) : SummOk Try.prog cod 34 (S_laws_markWorld k) := sumOk codOk Try.f34 (fun k => lookT [(92, S_laws_markEndS k), (93, S_laws_markParcelS k), (94, S_laws_markRecordS k)]) [] false [.tmp 4] 4 [false, false, false, false] mixed Try.func34 (by kernel_rfl) (by kernel_rfl) (by kernel_rfl) (by kernel_rfl)
  (fun k => Known.of tok eok codOk (all_cons (ok_laws_markEndS k) (all_cons (ok_laws_markParcelS k) (all_cons (ok_laws_markRecordS k) (all_nil)))))
  (fun k => QuietOk.of (all_cons (fun h r => by cases h) (all_cons (fun h r => by cases h) (all_cons (fun h r => by cases h) (all_nil)))))
  (fun a => rfl)
  (all_nil)
  (fun k => by (repeat intro _); show _ = _; kernel_rfl)
noncomputable def S_laws_heldItemS (k : Nat) : Summ K TyK := sm cod (Int) [.bo, .bo] [.c (.l true .item), .c (.i .i64)] [] (laws_heldItemS) k [.c (.i .i64)] [] (fun r => (r, ())) (fun v1 => v1) true
noncomputable abbrev L_laws_heldItemS : List (Nat × Cut K TyK (Int)) := [(2, ct cod [0, 1, 5] [.c (.l true .item), .c (.i .i64), .c (.i .i64)] [] laws_heldItemS_l2)]
theorem ok_laws_heldItemS (k : Nat) : SummOk Try.prog cod 130 (S_laws_heldItemS k) := sumOk codOk Try.f130 (fun k => lookT [(123, S_laws_markText k)]) L_laws_heldItemS false [.tmp 4] 0 [] mixed Try.func130 (by kernel_rfl) (by kernel_rfl) (by kernel_rfl) (by kernel_rfl)
  (fun k => Known.of tok eok codOk (all_cons (ok_laws_markText k) (all_nil)))
  (fun k => QuietOk.of (all_cons (fun h r => ⟨rfl, rfl⟩) (all_nil)))
  (fun a => rfl)
  (all_cons (ctGood codOk (by kernel_rfl) (by (repeat intro _); show _ = _; kernel_rfl) (fun k => by (repeat intro _); show _ = _; kernel_rfl)) (all_nil))
  (fun k => by (repeat intro _); show _ = _; kernel_rfl)
noncomputable def S_laws_heldEndS (k : Nat) : Summ K TyK := sm cod (Int) [.bo, .bo] [.c (.l true .end), .c (.i .i64)] [] (laws_heldEndS) k [.c (.i .i64)] [] (fun r => (r, ())) (fun v1 => v1) true
noncomputable abbrev L_laws_heldEndS : List (Nat × Cut K TyK (Int)) := [(2, ct cod [0, 1, 5] [.c (.l true .end), .c (.i .i64), .c (.i .i64)] [] laws_heldEndS_l2)]
theorem ok_laws_heldEndS (k : Nat) : SummOk Try.prog cod 95 (S_laws_heldEndS k) := sumOk codOk Try.f95 (fun k => lookT [(130, S_laws_heldItemS k), (73, S_laws_heldHeldS k), (123, S_laws_markText k), (74, S_laws_heldStringS k)]) L_laws_heldEndS false [.tmp 4] 0 [] mixed Try.func95 (by kernel_rfl) (by kernel_rfl) (by kernel_rfl) (by kernel_rfl)
  (fun k => Known.of tok eok codOk (all_cons (ok_laws_heldItemS k) (all_cons (ok_laws_heldHeldS k) (all_cons (ok_laws_markText k) (all_cons (ok_laws_heldStringS k) (all_nil))))))
  (fun k => QuietOk.of (all_cons (fun h r => ⟨rfl, rfl⟩) (all_cons (fun h r => ⟨rfl, rfl⟩) (all_cons (fun h r => ⟨rfl, rfl⟩) (all_cons (fun h r => ⟨rfl, rfl⟩) (all_nil))))))
  (fun a => rfl)
  (all_cons (ctGood codOk (by kernel_rfl) (by (repeat intro _); show _ = _; kernel_rfl) (fun k => by (repeat intro _); show _ = _; kernel_rfl)) (all_nil))
  (fun k => by (repeat intro _); show _ = _; kernel_rfl)
noncomputable def S_laws_heldParcelS (k : Nat) : Summ K TyK := sm cod (Int) [.bo, .bo] [.c (.l true .parcel), .c (.i .i64)] [] (laws_heldParcelS) k [.c (.i .i64)] [] (fun r => (r, ())) (fun v1 => v1) true
noncomputable abbrev L_laws_heldParcelS : List (Nat × Cut K TyK (Int)) := [(2, ct cod [0, 1, 5] [.c (.l true .parcel), .c (.i .i64), .c (.i .i64)] [] laws_heldParcelS_l2)]
theorem ok_laws_heldParcelS (k : Nat) : SummOk Try.prog cod 96 (S_laws_heldParcelS k) := sumOk codOk Try.f96 (fun k => lookT [(123, S_laws_markText k)]) L_laws_heldParcelS false [.tmp 4] 0 [] mixed Try.func96 (by kernel_rfl) (by kernel_rfl) (by kernel_rfl) (by kernel_rfl)
  (fun k => Known.of tok eok codOk (all_cons (ok_laws_markText k) (all_nil)))
  (fun k => QuietOk.of (all_cons (fun h r => ⟨rfl, rfl⟩) (all_nil)))
  (fun a => rfl)
  (all_cons (ctGood codOk (by kernel_rfl) (by (repeat intro _); show _ = _; kernel_rfl) (fun k => by (repeat intro _); show _ = _; kernel_rfl)) (all_nil))
  (fun k => by (repeat intro _); show _ = _; kernel_rfl)
noncomputable def S_laws_heldRecordS (k : Nat) : Summ K TyK := sm cod (Int) [.bo, .bo] [.c (.l true .record), .c (.i .i64)] [] (laws_heldRecordS) k [.c (.i .i64)] [] (fun r => (r, ())) (fun v1 => v1) true
noncomputable abbrev L_laws_heldRecordS : List (Nat × Cut K TyK (Int)) := [(2, ct cod [0, 1, 5] [.c (.l true .record), .c (.i .i64), .c (.i .i64)] [] laws_heldRecordS_l2)]
theorem ok_laws_heldRecordS (k : Nat) : SummOk Try.prog cod 97 (S_laws_heldRecordS k) := sumOk codOk Try.f97 (fun k => lookT [(123, S_laws_markText k)]) L_laws_heldRecordS false [.tmp 4] 0 [] mixed Try.func97 (by kernel_rfl) (by kernel_rfl) (by kernel_rfl) (by kernel_rfl)
  (fun k => Known.of tok eok codOk (all_cons (ok_laws_markText k) (all_nil)))
  (fun k => QuietOk.of (all_cons (fun h r => ⟨rfl, rfl⟩) (all_nil)))
  (fun a => rfl)
  (all_cons (ctGood codOk (by kernel_rfl) (by (repeat intro _); show _ = _; kernel_rfl) (fun k => by (repeat intro _); show _ = _; kernel_rfl)) (all_nil))
  (fun k => by (repeat intro _); show _ = _; kernel_rfl)
noncomputable def S_laws_heldWorld (k : Nat) : Summ K TyK := sm cod (Int) [.bo, .bo] [.g [.s, .i .i64, .l true .end, .l true .parcel, .s, .l true .record, .l true .record], .c (.i .i64)] [] (fun k v1 v2 v3 v4 v5 v6 v7 v8 => laws_heldWorld k (⟨v1, v2, v3, v4, v5, v6, v7⟩ : DWorld) v8) k [.c (.i .i64)] [] (fun r => (r, ())) (fun v1 => v1) true
theorem ok_laws_heldWorld (k : Nat) : SummOk Try.prog cod 35 (S_laws_heldWorld k) := sumOk codOk Try.f35 (fun k => lookT [(95, S_laws_heldEndS k), (96, S_laws_heldParcelS k), (97, S_laws_heldRecordS k)]) [] false [.tmp 4] 0 [] mixed Try.func35 (by kernel_rfl) (by kernel_rfl) (by kernel_rfl) (by kernel_rfl)
  (fun k => Known.of tok eok codOk (all_cons (ok_laws_heldEndS k) (all_cons (ok_laws_heldParcelS k) (all_cons (ok_laws_heldRecordS k) (all_nil)))))
  (fun k => QuietOk.of (all_cons (fun h r => ⟨rfl, rfl⟩) (all_cons (fun h r => ⟨rfl, rfl⟩) (all_cons (fun h r => ⟨rfl, rfl⟩) (all_nil)))))
  (fun a => rfl)
  (all_nil)
  (fun k => by (repeat intro _); show _ = _; kernel_rfl)
noncomputable def S_laws_FnExactNewWorld (k : Nat) : Summ K TyK := sm cod (Bool) [.pe, .pe] [.c (.s), .c (.i .i64)] [] (laws_FnExactNewWorld) k [.c (.b)] [] (fun r => (r, ())) (fun v1 => v1) true
theorem ok_laws_FnExactNewWorld (k : Nat) : SummOk Try.prog cod 6 (S_laws_FnExactNewWorld k) := sumOk codOk Try.f6 (fun k => lookT [(31, S_spec_NewWorld k), (32, S_impl_NewWorld k), (33, S_laws_eqWorld k), (34, S_laws_markWorld k), (35, S_laws_heldWorld k)]) [] false [.tmp 4] 0 [] mixed Try.func6 (by kernel_rfl) (by kernel_rfl) (by kernel_rfl) (by kernel_rfl)
  (fun k => Known.of tok eok codOk (all_cons (ok_spec_NewWorld k) (all_cons (ok_impl_NewWorld k) (all_cons (ok_laws_eqWorld k) (all_cons (ok_laws_markWorld k) (all_cons (ok_laws_heldWorld k) (all_nil)))))))
  (fun k => QuietOk.of (all_cons (fun h r => by cases h) (all_cons (fun h r => by cases h) (all_cons (fun h r => ⟨rfl, rfl⟩) (all_cons (fun h r => by cases h) (all_cons (fun h r => ⟨rfl, rfl⟩) (all_nil)))))))
  (fun a => rfl)
  (all_nil)
  (fun k => by (repeat intro _); show _ = _; kernel_rfl)
end Km.X
