/- A part of the proof of FnPackets: each function does what its reading says. There is no condition. -/
import Derived.Test.YtlgdbdkjkjocjaaKmSeat
import Derived.Test.YtlgdbdkjkjocjaaKxDef2
namespace Km.X
open Go Km Go.Proofs
set_option linter.unusedVariables false
set_option maxRecDepth 100000
set_option maxHeartbeats 4000000
noncomputable def S_spec_l1Open (k : Nat) : Summ K TyK := sm cod (DL1Rd) [.pe] [.c (.l false .byte)] [] (spec_l1Open) k [.c (.r 0 0)] [.x [.l false .byte, .i .i64]] (fun r => ((), r.b, r.p, ())) (fun v1 v2 => (⟨v1, v2⟩ : DL1Rd)) false
noncomputable abbrev L_spec_l1Open : List (Nat × Cut K TyK (DL1Rd)) := [(3, ct cod [0] [.c (.l false .byte)] [] spec_l1Open_l3)]
theorem ok_spec_l1Open (k : Nat) : SummOk Try.prog cod 75 (S_spec_l1Open k) := sumOk codOk Try.f75 (fun k => lookT []) L_spec_l1Open false [.tmp 2] 0 [] mixed Try.func75 (by kernel_rfl) (by kernel_rfl) (by kernel_rfl) (by kernel_rfl)
  (fun k => Known.of tok eok codOk (all_nil))
  (fun k => QuietOk.of (all_nil))
  (fun a => rfl)
  (all_cons (ctGood codOk (by kernel_rfl) (by (repeat intro _); show _ = _; kernel_rfl) (fun k => by (repeat intro _); show _ = _; kernel_rfl)) (all_nil))
  (fun k => by (repeat intro _); show _ = _; kernel_rfl)
noncomputable def S_spec_l1Rd_pick (k : Nat) : Summ K TyK := sm cod (Int × DL1Rd) [.mv, .bo] [.c (.r 0 0), .c (.i .i64)] [.x [.l false .byte, .i .i64]] (fun k v1 v2 v3 => spec_l1Rd_pick k (⟨v2, v3⟩ : DL1Rd) v1) k [.c (.i .i64)] [.x [.l false .byte, .i .i64]] (fun r => (r.1, r.2.b, r.2.p, ())) (fun v1 v2 v3 => (v1, (⟨v2, v3⟩ : DL1Rd))) false
theorem ok_spec_l1Rd_pick (k : Nat) : SummOk Try.prog cod 76 (S_spec_l1Rd_pick k) := sumOk codOk Try.f76 (fun k => lookT []) [] false [.tmp 4] 1 [false] mixed Try.func76 (by kernel_rfl) (by kernel_rfl) (by kernel_rfl) (by kernel_rfl)
  (fun k => Known.of tok eok codOk (all_nil))
  (fun k => QuietOk.of (all_nil))
  (fun a => rfl)
  (all_nil)
  (fun k => by (repeat intro _); show _ = _; kernel_rfl)
noncomputable def S_spec_l1Many (k : Nat) : Summ K TyK := sm cod (ByteArray) [.bo, .bo] [.c (.s), .c (.i .i64)] [] (spec_l1Many) k [.c (.s)] [] (fun r => (r, ())) (fun v1 => v1) true
noncomputable abbrev L_spec_l1Many : List (Nat × Cut K TyK (ByteArray)) := [(2, ct cod [0, 1, 5] [.c (.s), .c (.i .i64), .c (.s)] [] spec_l1Many_l2),
  (5, ct cod [0, 1, 5] [.c (.s), .c (.i .i64), .c (.s)] [] spec_l1Many_l5)]
theorem ok_spec_l1Many (k : Nat) : SummOk Try.prog cod 77 (S_spec_l1Many k) := sumOk codOk Try.f77 (fun k => lookT []) L_spec_l1Many false [.tmp 4] 0 [] mixed Try.func77 (by kernel_rfl) (by kernel_rfl) (by kernel_rfl) (by kernel_rfl)
  (fun k => Known.of tok eok codOk (all_nil))
  (fun k => QuietOk.of (all_nil))
  (fun a => rfl)
  (all_cons (ctGood codOk (by kernel_rfl) (by (repeat intro _); show _ = _; kernel_rfl) (fun k => by (repeat intro _); show _ = _; kernel_rfl)) (all_cons (ctGood codOk (by kernel_rfl) (by (repeat intro _); show _ = _; kernel_rfl) (fun k => by (repeat intro _); show _ = _; kernel_rfl)) (all_nil)))
  (fun k => by (repeat intro _); show _ = _; kernel_rfl)
noncomputable def S_spec_l1Message (k : Nat) : Summ K TyK := sm cod (ByteArray × DL1Rd) [.bo] [.c (.r 0 0)] [.x [.l false .byte, .i .i64]] (fun k v1 v2 => spec_l1Message k (⟨v1, v2⟩ : DL1Rd)) k [.c (.s)] [.x [.l false .byte, .i .i64]] (fun r => (r.1, r.2.b, r.2.p, ())) (fun v1 v2 v3 => (v1, (⟨v2, v3⟩ : DL1Rd))) false
noncomputable abbrev L_spec_l1Message : List (Nat × Cut K TyK (ByteArray × DL1Rd)) := [(12, ct cod [0, 3, 4] [.c (.r 0 0), .c (.s), .c (.i .i64)] [.x [.l false .byte, .i .i64]] spec_l1Message_l12)]
theorem ok_spec_l1Message (k : Nat) : SummOk Try.prog cod 78 (S_spec_l1Message k) := sumOk codOk Try.f78 (fun k => lookT [(76, S_spec_l1Rd_pick k), (77, S_spec_l1Many k)]) L_spec_l1Message false [.tmp 2] 1 [false] mixed Try.func78 (by kernel_rfl) (by kernel_rfl) (by kernel_rfl) (by kernel_rfl)
  (fun k => Known.of tok eok codOk (all_cons (ok_spec_l1Rd_pick k) (all_cons (ok_spec_l1Many k) (all_nil))))
  (fun k => QuietOk.of (all_cons (fun h r => by cases h) (all_cons (fun h r => ⟨rfl, rfl⟩) (all_nil))))
  (fun a => rfl)
  (all_cons (ctGood codOk (by kernel_rfl) (by (repeat intro _); show _ = _; kernel_rfl) (fun k => by (repeat intro _); show _ = _; kernel_rfl)) (all_nil))
  (fun k => by (repeat intro _); show _ = _; kernel_rfl)
noncomputable def S_spec_l1In (k : Nat) : Summ K TyK := sm cod (Bool) [.bo, .bo, .bo] [.c (.i .i64), .c (.i .i64), .c (.i .i64)] [] (spec_l1In) k [.c (.b)] [] (fun r => (r, ())) (fun v1 => v1) true
theorem ok_spec_l1In (k : Nat) : SummOk Try.prog cod 79 (S_spec_l1In k) := sumOk codOk Try.f79 (fun k => lookT []) [] false [.tmp 6] 0 [] mixed Try.func79 (by kernel_rfl) (by kernel_rfl) (by kernel_rfl) (by kernel_rfl)
  (fun k => Known.of tok eok codOk (all_nil))
  (fun k => QuietOk.of (all_nil))
  (fun a => rfl)
  (all_nil)
  (fun k => by (repeat intro _); show _ = _; kernel_rfl)
noncomputable def S_spec_l1Read (k : Nat) : Summ K TyK := sm cod (Int) [.bo] [.c (.s)] [] (spec_l1Read) k [.c (.i .i64)] [] (fun r => (r, ())) (fun v1 => v1) true
noncomputable abbrev L_spec_l1Read : List (Nat × Cut K TyK (Int)) := [(3, ct cod [0, 3, 4] [.c (.s), .c (.i .i64), .c (.i .i64)] [] spec_l1Read_l3)]
theorem ok_spec_l1Read (k : Nat) : SummOk Try.prog cod 80 (S_spec_l1Read k) := sumOk codOk Try.f80 (fun k => lookT []) L_spec_l1Read false [.tmp 2] 0 [] mixed Try.func80 (by kernel_rfl) (by kernel_rfl) (by kernel_rfl) (by kernel_rfl)
  (fun k => Known.of tok eok codOk (all_nil))
  (fun k => QuietOk.of (all_nil))
  (fun a => rfl)
  (all_cons (ctGood codOk (by kernel_rfl) (by (repeat intro _); show _ = _; kernel_rfl) (fun k => by (repeat intro _); show _ = _; kernel_rfl)) (all_nil))
  (fun k => by (repeat intro _); show _ = _; kernel_rfl)
noncomputable def S_spec_l2Ok (k : Nat) : Summ K TyK := sm cod (Bool) [.bo] [.g [.i .i64, .i .i64, .i .i64, .i .i64, .i .i64, .i .i64, .i .i64, .b, .s]] [] (fun k v1 v2 v3 v4 v5 v6 v7 v8 v9 => spec_l2Ok k (⟨v1, v2, v3, v4, v5, v6, v7, v8, v9⟩ : DPacket)) k [.c (.b)] [] (fun r => (r, ())) (fun v1 => v1) true
theorem ok_spec_l2Ok (k : Nat) : SummOk Try.prog cod 109 (S_spec_l2Ok k) := sumOk codOk Try.f109 (fun k => lookT [(79, S_spec_l1In k)]) [] false [.tmp 2] 0 [] mixed Try.func109 (by kernel_rfl) (by kernel_rfl) (by kernel_rfl) (by kernel_rfl)
  (fun k => Known.of tok eok codOk (all_cons (ok_spec_l1In k) (all_nil)))
  (fun k => QuietOk.of (all_cons (fun h r => ⟨rfl, rfl⟩) (all_nil)))
  (fun a => rfl)
  (all_nil)
  (fun k => by (repeat intro _); show _ = _; kernel_rfl)
noncomputable def S_spec_l1Number (k : Nat) : Summ K TyK := sm cod (ByteArray) [.bo, .bo] [.c (.i .i64), .c (.i .i64)] [] (spec_l1Number) k [.c (.s)] [] (fun r => (r, ())) (fun v1 => v1) true
noncomputable abbrev L_spec_l1Number : List (Nat × Cut K TyK (ByteArray)) := [(3, ct cod [0, 1, 5, 6] [.c (.i .i64), .c (.i .i64), .c (.s), .c (.i .i64)] [] spec_l1Number_l3)]
theorem ok_spec_l1Number (k : Nat) : SummOk Try.prog cod 125 (S_spec_l1Number k) := sumOk codOk Try.f125 (fun k => lookT []) L_spec_l1Number false [.tmp 4] 0 [] mixed Try.func125 (by kernel_rfl) (by kernel_rfl) (by kernel_rfl) (by kernel_rfl)
  (fun k => Known.of tok eok codOk (all_nil))
  (fun k => QuietOk.of (all_nil))
  (fun a => rfl)
  (all_cons (ctGood codOk (by kernel_rfl) (by (repeat intro _); show _ = _; kernel_rfl) (fun k => by (repeat intro _); show _ = _; kernel_rfl)) (all_nil))
  (fun k => by (repeat intro _); show _ = _; kernel_rfl)
noncomputable def S_spec_l2Body (k : Nat) : Summ K TyK := sm cod (ByteArray) [.bo] [.g [.i .i64, .i .i64, .i .i64, .i .i64, .i .i64, .i .i64, .i .i64, .b, .s]] [] (fun k v1 v2 v3 v4 v5 v6 v7 v8 v9 => spec_l2Body k (⟨v1, v2, v3, v4, v5, v6, v7, v8, v9⟩ : DPacket)) k [.c (.s)] [] (fun r => (r, ())) (fun v1 => v1) true
noncomputable abbrev L_spec_l2Body : List (Nat × Cut K TyK (ByteArray)) := [(7, ct cod [1, 3, 4] [.c (.r 0 0), .c (.s), .c (.i .i64)] [.x [.i .i64, .i .i64, .i .i64, .i .i64, .i .i64, .i .i64, .i .i64, .b, .s]] spec_l2Body_l7)]
theorem ok_spec_l2Body (k : Nat) : SummOk Try.prog cod 111 (S_spec_l2Body k) := sumOk codOk Try.f111 (fun k => lookT [(125, S_spec_l1Number k)]) L_spec_l2Body false [.tmp 2] 0 [] mixed Try.func111 (by kernel_rfl) (by kernel_rfl) (by kernel_rfl) (by kernel_rfl)
  (fun k => Known.of tok eok codOk (all_cons (ok_spec_l1Number k) (all_nil)))
  (fun k => QuietOk.of (all_cons (fun h r => ⟨rfl, rfl⟩) (all_nil)))
  (fun a => rfl)
  (all_cons (ctGood codOk (by kernel_rfl) (by (repeat intro _); show _ = _; kernel_rfl) (fun k => by (repeat intro _); show _ = _; kernel_rfl)) (all_nil))
  (fun k => by (repeat intro _); show _ = _; kernel_rfl)
noncomputable def S_spec_Tag (k : Nat) : Summ K TyK := sm cod (ByteArray) [.bo, .bo, .bo] [.c (.s), .c (.s), .c (.i .i64)] [] (spec_Tag) k [.c (.s)] [] (fun r => (r, ())) (fun v1 => v1) true
noncomputable abbrev L_spec_Tag : List (Nat × Cut K TyK (ByteArray)) := [(6, ct cod [2, 7, 8, 9] [.c (.i .i64), .c (.s), .c (.i .u64), .c (.i .i64)] [] spec_Tag_l6),
  (11, ct cod [2, 8, 10, 11] [.c (.i .i64), .c (.i .u64), .c (.s), .c (.i .i64)] [] spec_Tag_l11)]
theorem ok_spec_Tag (k : Nat) : SummOk Try.prog cod 110 (S_spec_Tag k) := sumOk codOk Try.f110 (fun k => lookT [(79, S_spec_l1In k)]) L_spec_Tag false [.tmp 6] 0 [] mixed Try.func110 (by kernel_rfl) (by kernel_rfl) (by kernel_rfl) (by kernel_rfl)
  (fun k => Known.of tok eok codOk (all_cons (ok_spec_l1In k) (all_nil)))
  (fun k => QuietOk.of (all_cons (fun h r => ⟨rfl, rfl⟩) (all_nil)))
  (fun a => rfl)
  (all_cons (ctGood codOk (by kernel_rfl) (by (repeat intro _); show _ = _; kernel_rfl) (fun k => by (repeat intro _); show _ = _; kernel_rfl)) (all_cons (ctGood codOk (by kernel_rfl) (by (repeat intro _); show _ = _; kernel_rfl) (fun k => by (repeat intro _); show _ = _; kernel_rfl)) (all_nil)))
  (fun k => by (repeat intro _); show _ = _; kernel_rfl)
noncomputable def S_spec_FormPacket (k : Nat) : Summ K TyK := sm cod (ByteArray) [.bo, .bo, .bo] [.g [.i .i64, .i .i64, .i .i64, .i .i64, .i .i64, .i .i64, .i .i64, .b, .s], .c (.s), .c (.i .i64)] [] (fun k v1 v2 v3 v4 v5 v6 v7 v8 v9 v10 v11 => spec_FormPacket k (⟨v1, v2, v3, v4, v5, v6, v7, v8, v9⟩ : DPacket) v10 v11) k [.c (.s)] [] (fun r => (r, ())) (fun v1 => v1) true
theorem ok_spec_FormPacket (k : Nat) : SummOk Try.prog cod 68 (S_spec_FormPacket k) := sumOk codOk Try.f68 (fun k => lookT [(109, S_spec_l2Ok k), (79, S_spec_l1In k), (111, S_spec_l2Body k), (110, S_spec_Tag k)]) [] false [.tmp 6] 0 [] mixed Try.func68 (by kernel_rfl) (by kernel_rfl) (by kernel_rfl) (by kernel_rfl)
  (fun k => Known.of tok eok codOk (all_cons (ok_spec_l2Ok k) (all_cons (ok_spec_l1In k) (all_cons (ok_spec_l2Body k) (all_cons (ok_spec_Tag k) (all_nil))))))
  (fun k => QuietOk.of (all_cons (fun h r => ⟨rfl, rfl⟩) (all_cons (fun h r => ⟨rfl, rfl⟩) (all_cons (fun h r => ⟨rfl, rfl⟩) (all_cons (fun h r => ⟨rfl, rfl⟩) (all_nil))))))
  (fun a => rfl)
  (all_nil)
  (fun k => by (repeat intro _); show _ = _; kernel_rfl)
noncomputable def S_spec_ReadPacket (k : Nat) : Summ K TyK := sm cod (DPacket × Bool) [.bo, .bo, .bo] [.c (.s), .c (.s), .c (.i .i64)] [] (spec_ReadPacket) k [.g [.i .i64, .i .i64, .i .i64, .i .i64, .i .i64, .i .i64, .i .i64, .b, .s], .c (.b)] [] (fun r => (r.1.Kind, r.1.From, r.1.Mine, r.1.Yours, r.1.Next, r.1.Mask, r.1.Seq, r.1.Last, r.1.Part, r.2, ())) (fun v1 v2 v3 v4 v5 v6 v7 v8 v9 v10 => ((⟨v1, v2, v3, v4, v5, v6, v7, v8, v9⟩ : DPacket), v10)) true
noncomputable abbrev L_spec_ReadPacket : List (Nat × Cut K TyK (DPacket × Bool)) := [(11, ct cod [0, 1, 2, 6, 9] [.c (.s), .c (.s), .c (.i .i64), .c (.r 0 0), .c (.r 1 0)] [.x [.i .i64, .i .i64, .i .i64, .i .i64, .i .i64, .i .i64, .i .i64, .b, .s], .x [.i .i64, .i .i64, .i .i64, .i .i64, .i .i64, .i .i64, .i .i64, .b, .s]] spec_ReadPacket_l11)]
theorem ok_spec_ReadPacket (k : Nat) : SummOk Try.prog cod 29 (S_spec_ReadPacket k) := sumOk codOk Try.f29 (fun k => lookT [(79, S_spec_l1In k), (80, S_spec_l1Read k), (68, S_spec_FormPacket k)]) L_spec_ReadPacket false [.cell 6 40, .tmp 7] 0 [] mixed Try.func29 (by kernel_rfl) (by kernel_rfl) (by kernel_rfl) (by kernel_rfl)
  (fun k => Known.of tok eok codOk (all_cons (ok_spec_l1In k) (all_cons (ok_spec_l1Read k) (all_cons (ok_spec_FormPacket k) (all_nil)))))
  (fun k => QuietOk.of (all_cons (fun h r => ⟨rfl, rfl⟩) (all_cons (fun h r => ⟨rfl, rfl⟩) (all_cons (fun h r => ⟨rfl, rfl⟩) (all_nil)))))
  (fun a => rfl)
  (all_cons (ctGood codOk (by kernel_rfl) (by (repeat intro _); show _ = _; kernel_rfl) (fun k => by (repeat intro _); show _ = _; kernel_rfl)) (all_nil))
  (fun k => by (repeat intro _); show _ = _; kernel_rfl)
noncomputable def S_impl_num (k : Nat) : Summ K TyK := sm cod (Int) [.bo] [.c (.s)] [] (impl_num) k [.c (.i .i64)] [] (fun r => (r, ())) (fun v1 => v1) true
noncomputable abbrev L_impl_num : List (Nat × Cut K TyK (Int)) := [(3, ct cod [0, 3, 4] [.c (.s), .c (.i .i64), .c (.i .i64)] [] impl_num_l3)]
theorem ok_impl_num (k : Nat) : SummOk Try.prog cod 81 (S_impl_num k) := sumOk codOk Try.f81 (fun k => lookT []) L_impl_num false [.tmp 2] 0 [] mixed Try.func81 (by kernel_rfl) (by kernel_rfl) (by kernel_rfl) (by kernel_rfl)
  (fun k => Known.of tok eok codOk (all_nil))
  (fun k => QuietOk.of (all_nil))
  (fun a => rfl)
  (all_cons (ctGood codOk (by kernel_rfl) (by (repeat intro _); show _ = _; kernel_rfl) (fun k => by (repeat intro _); show _ = _; kernel_rfl)) (all_nil))
  (fun k => by (repeat intro _); show _ = _; kernel_rfl)
noncomputable def S_impl_in (k : Nat) : Summ K TyK := sm cod (Bool) [.bo, .bo, .bo] [.c (.i .i64), .c (.i .i64), .c (.i .i64)] [] (impl_in) k [.c (.b)] [] (fun r => (r, ())) (fun v1 => v1) true
theorem ok_impl_in (k : Nat) : SummOk Try.prog cod 89 (S_impl_in k) := sumOk codOk Try.f89 (fun k => lookT []) [] false [.tmp 6] 0 [] mixed Try.func89 (by kernel_rfl) (by kernel_rfl) (by kernel_rfl) (by kernel_rfl)
  (fun k => Known.of tok eok codOk (all_nil))
  (fun k => QuietOk.of (all_nil))
  (fun a => rfl)
  (all_nil)
  (fun k => by (repeat intro _); show _ = _; kernel_rfl)
noncomputable def S_impl_validPacket (k : Nat) : Summ K TyK := sm cod (Bool) [.bo] [.g [.i .i64, .i .i64, .i .i64, .i .i64, .i .i64, .i .i64, .i .i64, .b, .s]] [] (fun k v1 v2 v3 v4 v5 v6 v7 v8 v9 => impl_validPacket k (⟨v1, v2, v3, v4, v5, v6, v7, v8, v9⟩ : DPacket)) k [.c (.b)] [] (fun r => (r, ())) (fun v1 => v1) true
theorem ok_impl_validPacket (k : Nat) : SummOk Try.prog cod 82 (S_impl_validPacket k) := sumOk codOk Try.f82 (fun k => lookT [(89, S_impl_in k)]) [] false [.tmp 2] 0 [] mixed Try.func82 (by kernel_rfl) (by kernel_rfl) (by kernel_rfl) (by kernel_rfl)
  (fun k => Known.of tok eok codOk (all_cons (ok_impl_in k) (all_nil)))
  (fun k => QuietOk.of (all_cons (fun h r => ⟨rfl, rfl⟩) (all_nil)))
  (fun a => rfl)
  (all_nil)
  (fun k => by (repeat intro _); show _ = _; kernel_rfl)
noncomputable def S_impl_be (k : Nat) : Summ K TyK := sm cod (ByteArray) [.bo, .bo] [.c (.i .i64), .c (.i .i64)] [] (impl_be) k [.c (.s)] [] (fun r => (r, ())) (fun v1 => v1) true
noncomputable abbrev L_impl_be : List (Nat × Cut K TyK (ByteArray)) := [(3, ct cod [0, 5, 6] [.c (.i .i64), .c (.o 0), .c (.i .i64)] [.l .byte] impl_be_l3)]
theorem ok_impl_be (k : Nat) : SummOk Try.prog cod 108 (S_impl_be k) := sumOk codOk Try.f108 (fun k => lookT []) L_impl_be false [.tmp 4] 0 [] mixed Try.func108 (by kernel_rfl) (by kernel_rfl) (by kernel_rfl) (by kernel_rfl)
  (fun k => Known.of tok eok codOk (all_nil))
  (fun k => QuietOk.of (all_nil))
  (fun a => rfl)
  (all_cons (ctGood codOk (by kernel_rfl) (by (repeat intro _); show _ = _; kernel_rfl) (fun k => by (repeat intro _); show _ = _; kernel_rfl)) (all_nil))
  (fun k => by (repeat intro _); show _ = _; kernel_rfl)
noncomputable def S_impl_Tag (k : Nat) : Summ K TyK := sm cod (ByteArray) [.bo, .bo, .bo] [.c (.s), .c (.s), .c (.i .i64)] [] (impl_Tag) k [.c (.s)] [] (fun r => (r, ())) (fun v1 => v1) true
noncomputable abbrev L_impl_Tag : List (Nat × Cut K TyK (ByteArray)) := [(6, ct cod [2, 7, 8, 9] [.c (.i .i64), .c (.i .u64), .c (.s), .c (.i .i64)] [] impl_Tag_l6),
  (11, ct cod [2, 7, 10, 11] [.c (.i .i64), .c (.i .u64), .c (.z 0 0), .c (.i .i64)] [.l .byte] impl_Tag_l11)]
theorem ok_impl_Tag (k : Nat) : SummOk Try.prog cod 69 (S_impl_Tag k) := sumOk codOk Try.f69 (fun k => lookT []) L_impl_Tag false [.tmp 6] 0 [] mixed Try.func69 (by kernel_rfl) (by kernel_rfl) (by kernel_rfl) (by kernel_rfl)
  (fun k => Known.of tok eok codOk (all_nil))
  (fun k => QuietOk.of (all_nil))
  (fun a => rfl)
  (all_cons (ctGood codOk (by kernel_rfl) (by (repeat intro _); show _ = _; kernel_rfl) (fun k => by (repeat intro _); show _ = _; kernel_rfl)) (all_cons (ctGood codOk (by kernel_rfl) (by (repeat intro _); show _ = _; kernel_rfl) (fun k => by (repeat intro _); show _ = _; kernel_rfl)) (all_nil)))
  (fun k => by (repeat intro _); show _ = _; kernel_rfl)
noncomputable def S_impl_FormPacket (k : Nat) : Summ K TyK := sm cod (ByteArray) [.bo, .bo, .bo] [.g [.i .i64, .i .i64, .i .i64, .i .i64, .i .i64, .i .i64, .i .i64, .b, .s], .c (.s), .c (.i .i64)] [] (fun k v1 v2 v3 v4 v5 v6 v7 v8 v9 v10 v11 => impl_FormPacket k (⟨v1, v2, v3, v4, v5, v6, v7, v8, v9⟩ : DPacket) v10 v11) k [.c (.s)] [] (fun r => (r, ())) (fun v1 => v1) true
noncomputable abbrev L_impl_FormPacket : List (Nat × Cut K TyK (ByteArray)) := [(10, ct cod [1, 2, 7] [.c (.s), .c (.i .i64), .c (.s)] [] impl_FormPacket_l10),
  (9, ct cod [1, 2, 3, 7, 8] [.c (.s), .c (.i .i64), .c (.r 0 0), .c (.s), .c (.i .i64)] [.x [.i .i64, .i .i64, .i .i64, .i .i64, .i .i64, .i .i64, .i .i64, .b, .s]] impl_FormPacket_l9)]
theorem ok_impl_FormPacket (k : Nat) : SummOk Try.prog cod 67 (S_impl_FormPacket k) := sumOk codOk Try.f67 (fun k => lookT [(82, S_impl_validPacket k), (108, S_impl_be k), (69, S_impl_Tag k)]) L_impl_FormPacket false [.tmp 6] 0 [] mixed Try.func67 (by kernel_rfl) (by kernel_rfl) (by kernel_rfl) (by kernel_rfl)
  (fun k => Known.of tok eok codOk (all_cons (ok_impl_validPacket k) (all_cons (ok_impl_be k) (all_cons (ok_impl_Tag k) (all_nil)))))
  (fun k => QuietOk.of (all_cons (fun h r => ⟨rfl, rfl⟩) (all_cons (fun h r => ⟨rfl, rfl⟩) (all_cons (fun h r => ⟨rfl, rfl⟩) (all_nil)))))
  (fun a => rfl)
  (all_cons (ctGood codOk (by kernel_rfl) (by (repeat intro _); show _ = _; kernel_rfl) (fun k => by (repeat intro _); show _ = _; kernel_rfl)) (all_cons (ctGood codOk (by kernel_rfl) (by (repeat intro _); show _ = _; kernel_rfl) (fun k => by (repeat intro _); show _ = _; kernel_rfl)) (all_nil)))
  (fun k => by (repeat intro _); show _ = _; kernel_rfl)
noncomputable def S_impl_ReadPacket (k : Nat) : Summ K TyK := sm cod (DPacket × Bool) [.bo, .bo, .bo] [.c (.s), .c (.s), .c (.i .i64)] [] (impl_ReadPacket) k [.g [.i .i64, .i .i64, .i .i64, .i .i64, .i .i64, .i .i64, .i .i64, .b, .s], .c (.b)] [] (fun r => (r.1.Kind, r.1.From, r.1.Mine, r.1.Yours, r.1.Next, r.1.Mask, r.1.Seq, r.1.Last, r.1.Part, r.2, ())) (fun v1 v2 v3 v4 v5 v6 v7 v8 v9 v10 => ((⟨v1, v2, v3, v4, v5, v6, v7, v8, v9⟩ : DPacket), v10)) true
noncomputable abbrev L_impl_ReadPacket : List (Nat × Cut K TyK (DPacket × Bool)) := [(10, ct cod [0, 1, 2, 6, 9] [.c (.s), .c (.s), .c (.i .i64), .c (.r 0 0), .c (.r 1 0)] [.x [.i .i64, .i .i64, .i .i64, .i .i64, .i .i64, .i .i64, .i .i64, .b, .s], .x [.i .i64, .i .i64, .i .i64, .i .i64, .i .i64, .i .i64, .i .i64, .b, .s]] impl_ReadPacket_l10)]
theorem ok_impl_ReadPacket (k : Nat) : SummOk Try.prog cod 30 (S_impl_ReadPacket k) := sumOk codOk Try.f30 (fun k => lookT [(81, S_impl_num k), (82, S_impl_validPacket k), (67, S_impl_FormPacket k)]) L_impl_ReadPacket false [.cell 6 40, .tmp 7] 0 [] mixed Try.func30 (by kernel_rfl) (by kernel_rfl) (by kernel_rfl) (by kernel_rfl)
  (fun k => Known.of tok eok codOk (all_cons (ok_impl_num k) (all_cons (ok_impl_validPacket k) (all_cons (ok_impl_FormPacket k) (all_nil)))))
  (fun k => QuietOk.of (all_cons (fun h r => ⟨rfl, rfl⟩) (all_cons (fun h r => ⟨rfl, rfl⟩) (all_cons (fun h r => ⟨rfl, rfl⟩) (all_nil)))))
  (fun a => rfl)
  (all_cons (ctGood codOk (by kernel_rfl) (by (repeat intro _); show _ = _; kernel_rfl) (fun k => by (repeat intro _); show _ = _; kernel_rfl)) (all_nil))
  (fun k => by (repeat intro _); show _ = _; kernel_rfl)
noncomputable def S_spec_l2Draw (k : Nat) : Summ K TyK := sm cod (DPacket × DL1Rd) [.bo] [.c (.r 0 0)] [.x [.l false .byte, .i .i64]] (fun k v1 v2 => spec_l2Draw k (⟨v1, v2⟩ : DL1Rd)) k [.g [.i .i64, .i .i64, .i .i64, .i .i64, .i .i64, .i .i64, .i .i64, .b, .s]] [.x [.l false .byte, .i .i64]] (fun r => (r.1.Kind, r.1.From, r.1.Mine, r.1.Yours, r.1.Next, r.1.Mask, r.1.Seq, r.1.Last, r.1.Part, r.2.b, r.2.p, ())) (fun v1 v2 v3 v4 v5 v6 v7 v8 v9 v10 v11 => ((⟨v1, v2, v3, v4, v5, v6, v7, v8, v9⟩ : DPacket), (⟨v10, v11⟩ : DL1Rd))) false
theorem ok_spec_l2Draw (k : Nat) : SummOk Try.prog cod 105 (S_spec_l2Draw k) := sumOk codOk Try.f105 (fun k => lookT [(76, S_spec_l1Rd_pick k), (77, S_spec_l1Many k)]) [] false [.cell 2 40] 1 [false] mixed Try.func105 (by kernel_rfl) (by kernel_rfl) (by kernel_rfl) (by kernel_rfl)
  (fun k => Known.of tok eok codOk (all_cons (ok_spec_l1Rd_pick k) (all_cons (ok_spec_l1Many k) (all_nil))))
  (fun k => QuietOk.of (all_cons (fun h r => by cases h) (all_cons (fun h r => ⟨rfl, rfl⟩) (all_nil))))
  (fun a => rfl)
  (all_nil)
  (fun k => by (repeat intro _); show _ = _; kernel_rfl)
noncomputable def S_spec_l2Spoil (k : Nat) : Summ K TyK := sm cod (DPacket × DL1Rd) [.bo, .bo] [.c (.r 0 0), .g [.i .i64, .i .i64, .i .i64, .i .i64, .i .i64, .i .i64, .i .i64, .b, .s]] [.x [.l false .byte, .i .i64]] (fun k v1 v2 v3 v4 v5 v6 v7 v8 v9 v10 v11 => spec_l2Spoil k (⟨v10, v11⟩ : DL1Rd) (⟨v1, v2, v3, v4, v5, v6, v7, v8, v9⟩ : DPacket)) k [.g [.i .i64, .i .i64, .i .i64, .i .i64, .i .i64, .i .i64, .i .i64, .b, .s]] [.x [.l false .byte, .i .i64]] (fun r => (r.1.Kind, r.1.From, r.1.Mine, r.1.Yours, r.1.Next, r.1.Mask, r.1.Seq, r.1.Last, r.1.Part, r.2.b, r.2.p, ())) (fun v1 v2 v3 v4 v5 v6 v7 v8 v9 v10 v11 => ((⟨v1, v2, v3, v4, v5, v6, v7, v8, v9⟩ : DPacket), (⟨v10, v11⟩ : DL1Rd))) false
noncomputable abbrev L_spec_l2Spoil : List (Nat × Cut K TyK (DPacket × DL1Rd)) := [(21, ct cod [3, 4] [.c (.r 1 0), .c (.r 2 0)] [.x [.l false .byte, .i .i64], .x [.i .i64, .i .i64, .i .i64, .i .i64, .i .i64, .i .i64, .i .i64, .b, .s], .x [.i .i64, .i .i64, .i .i64, .i .i64, .i .i64, .i .i64, .i .i64, .b, .s]] spec_l2Spoil_l21)]
theorem ok_spec_l2Spoil (k : Nat) : SummOk Try.prog cod 106 (S_spec_l2Spoil k) := sumOk codOk Try.f106 (fun k => lookT [(76, S_spec_l1Rd_pick k), (77, S_spec_l1Many k)]) L_spec_l2Spoil false [.cell 4 40] 1 [false] mixed Try.func106 (by kernel_rfl) (by kernel_rfl) (by kernel_rfl) (by kernel_rfl)
  (fun k => Known.of tok eok codOk (all_cons (ok_spec_l1Rd_pick k) (all_cons (ok_spec_l1Many k) (all_nil))))
  (fun k => QuietOk.of (all_cons (fun h r => by cases h) (all_cons (fun h r => ⟨rfl, rfl⟩) (all_nil))))
  (fun a => rfl)
  (all_cons (ctGood codOk (by kernel_rfl) (by (repeat intro _); show _ = _; kernel_rfl) (fun k => by (repeat intro _); show _ = _; kernel_rfl)) (all_nil))
  (fun k => by (repeat intro _); show _ = _; kernel_rfl)
noncomputable def S_spec_l1Key (k : Nat) : Summ K TyK := sm cod (ByteArray × DL1Rd) [.bo] [.c (.r 0 0)] [.x [.l false .byte, .i .i64]] (fun k v1 v2 => spec_l1Key k (⟨v1, v2⟩ : DL1Rd)) k [.c (.s)] [.x [.l false .byte, .i .i64]] (fun r => (r.1, r.2.b, r.2.p, ())) (fun v1 v2 v3 => (v1, (⟨v2, v3⟩ : DL1Rd))) false
theorem ok_spec_l1Key (k : Nat) : SummOk Try.prog cod 123 (S_spec_l1Key k) := sumOk codOk Try.f123 (fun k => lookT [(77, S_spec_l1Many k), (76, S_spec_l1Rd_pick k)]) [] false [.tmp 2] 1 [false] mixed Try.func123 (by kernel_rfl) (by kernel_rfl) (by kernel_rfl) (by kernel_rfl)
  (fun k => Known.of tok eok codOk (all_cons (ok_spec_l1Many k) (all_cons (ok_spec_l1Rd_pick k) (all_nil))))
  (fun k => QuietOk.of (all_cons (fun h r => ⟨rfl, rfl⟩) (all_cons (fun h r => by cases h) (all_nil))))
  (fun a => rfl)
  (all_nil)
  (fun k => by (repeat intro _); show _ = _; kernel_rfl)
noncomputable def S_spec_l1Width (k : Nat) : Summ K TyK := sm cod (Int × DL1Rd) [.bo] [.c (.r 0 0)] [.x [.l false .byte, .i .i64]] (fun k v1 v2 => spec_l1Width k (⟨v1, v2⟩ : DL1Rd)) k [.c (.i .i64)] [.x [.l false .byte, .i .i64]] (fun r => (r.1, r.2.b, r.2.p, ())) (fun v1 v2 v3 => (v1, (⟨v2, v3⟩ : DL1Rd))) false
theorem ok_spec_l1Width (k : Nat) : SummOk Try.prog cod 124 (S_spec_l1Width k) := sumOk codOk Try.f124 (fun k => lookT [(76, S_spec_l1Rd_pick k)]) [] false [.tmp 2] 1 [false] mixed Try.func124 (by kernel_rfl) (by kernel_rfl) (by kernel_rfl) (by kernel_rfl)
  (fun k => Known.of tok eok codOk (all_cons (ok_spec_l1Rd_pick k) (all_nil)))
  (fun k => QuietOk.of (all_cons (fun h r => by cases h) (all_nil)))
  (fun a => rfl)
  (all_nil)
  (fun k => by (repeat intro _); show _ = _; kernel_rfl)
noncomputable def S_spec_DrawTag (k : Nat) : Summ K TyK := sm cod (ByteArray × ByteArray × Int) [.pe] [.c (.l false .byte)] [] (spec_DrawTag) k [.c (.s), .c (.s), .c (.i .i64)] [] (fun r => (r.1, r.2.1, r.2.2, ())) (fun v1 v2 v3 => (v1, v2, v3)) true
noncomputable abbrev L_spec_DrawTag : List (Nat × Cut K TyK (ByteArray × ByteArray × Int)) := [(10, ct cod [6, 7, 8] [.c (.s), .c (.s), .c (.i .i64)] [] spec_DrawTag_l10)]
theorem ok_spec_DrawTag (k : Nat) : SummOk Try.prog cod 107 (S_spec_DrawTag k) := sumOk codOk Try.f107 (fun k => lookT [(75, S_spec_l1Open k), (78, S_spec_l1Message k), (123, S_spec_l1Key k), (124, S_spec_l1Width k), (76, S_spec_l1Rd_pick k), (77, S_spec_l1Many k)]) L_spec_DrawTag false [.tmp 2, .tmp 3, .tmp 4] 0 [] mixed Try.func107 (by kernel_rfl) (by kernel_rfl) (by kernel_rfl) (by kernel_rfl)
  (fun k => Known.of tok eok codOk (all_cons (ok_spec_l1Open k) (all_cons (ok_spec_l1Message k) (all_cons (ok_spec_l1Key k) (all_cons (ok_spec_l1Width k) (all_cons (ok_spec_l1Rd_pick k) (all_cons (ok_spec_l1Many k) (all_nil))))))))
  (fun k => QuietOk.of (all_cons (fun h r => by cases h) (all_cons (fun h r => by cases h) (all_cons (fun h r => by cases h) (all_cons (fun h r => by cases h) (all_cons (fun h r => by cases h) (all_cons (fun h r => ⟨rfl, rfl⟩) (all_nil))))))))
  (fun a => rfl)
  (all_cons (ctGood codOk (by kernel_rfl) (by (repeat intro _); show _ = _; kernel_rfl) (fun k => by (repeat intro _); show _ = _; kernel_rfl)) (all_nil))
  (fun k => by (repeat intro _); show _ = _; kernel_rfl)
noncomputable def S_spec_DrawFormPacket (k : Nat) : Summ K TyK := sm cod (DPacket × ByteArray × Int) [.pe] [.c (.l false .byte)] [] (spec_DrawFormPacket) k [.g [.i .i64, .i .i64, .i .i64, .i .i64, .i .i64, .i .i64, .i .i64, .b, .s], .c (.s), .c (.i .i64)] [] (fun r => (r.1.Kind, r.1.From, r.1.Mine, r.1.Yours, r.1.Next, r.1.Mask, r.1.Seq, r.1.Last, r.1.Part, r.2.1, r.2.2, ())) (fun v1 v2 v3 v4 v5 v6 v7 v8 v9 v10 v11 => ((⟨v1, v2, v3, v4, v5, v6, v7, v8, v9⟩ : DPacket), v10, v11)) true
noncomputable abbrev L_spec_DrawFormPacket : List (Nat × Cut K TyK (DPacket × ByteArray × Int)) := [(5, ct cod [0, 2, 6] [.c (.l false .byte), .c (.r 0 0), .c (.r 1 0)] [.x [.i .i64, .i .i64, .i .i64, .i .i64, .i .i64, .i .i64, .i .i64, .b, .s], .x [.i .i64, .i .i64, .i .i64, .i .i64, .i .i64, .i .i64, .i .i64, .b, .s]] spec_DrawFormPacket_l5)]
theorem ok_spec_DrawFormPacket (k : Nat) : SummOk Try.prog cod 66 (S_spec_DrawFormPacket k) := sumOk codOk Try.f66 (fun k => lookT [(75, S_spec_l1Open k), (105, S_spec_l2Draw k), (76, S_spec_l1Rd_pick k), (106, S_spec_l2Spoil k), (107, S_spec_DrawTag k)]) L_spec_DrawFormPacket false [.cell 2 40, .tmp 3, .tmp 4] 0 [] mixed Try.func66 (by kernel_rfl) (by kernel_rfl) (by kernel_rfl) (by kernel_rfl)
  (fun k => Known.of tok eok codOk (all_cons (ok_spec_l1Open k) (all_cons (ok_spec_l2Draw k) (all_cons (ok_spec_l1Rd_pick k) (all_cons (ok_spec_l2Spoil k) (all_cons (ok_spec_DrawTag k) (all_nil)))))))
  (fun k => QuietOk.of (all_cons (fun h r => by cases h) (all_cons (fun h r => by cases h) (all_cons (fun h r => by cases h) (all_cons (fun h r => by cases h) (all_cons (fun h r => ⟨rfl, rfl⟩) (all_nil)))))))
  (fun a => rfl)
  (all_cons (ctGood codOk (by kernel_rfl) (by (repeat intro _); show _ = _; kernel_rfl) (fun k => by (repeat intro _); show _ = _; kernel_rfl)) (all_nil))
  (fun k => by (repeat intro _); show _ = _; kernel_rfl)
noncomputable def S_spec_l1Bend (k : Nat) : Summ K TyK := sm cod (ByteArray × DL1Rd) [.bo, .bo] [.c (.r 0 0), .c (.s)] [.x [.l false .byte, .i .i64]] (fun k v1 v2 v3 => spec_l1Bend k (⟨v2, v3⟩ : DL1Rd) v1) k [.c (.s)] [.x [.l false .byte, .i .i64]] (fun r => (r.1, r.2.b, r.2.p, ())) (fun v1 v2 v3 => (v1, (⟨v2, v3⟩ : DL1Rd))) false
noncomputable abbrev L_spec_l1Bend : List (Nat × Cut K TyK (ByteArray × DL1Rd)) := [(13, ct cod [1, 5] [.c (.s), .c (.i .i64)] [.x [.l false .byte, .i .i64]] spec_l1Bend_l13)]
theorem ok_spec_l1Bend (k : Nat) : SummOk Try.prog cod 112 (S_spec_l1Bend k) := sumOk codOk Try.f112 (fun k => lookT [(76, S_spec_l1Rd_pick k)]) L_spec_l1Bend false [.tmp 4] 1 [false] mixed Try.func112 (by kernel_rfl) (by kernel_rfl) (by kernel_rfl) (by kernel_rfl)
  (fun k => Known.of tok eok codOk (all_cons (ok_spec_l1Rd_pick k) (all_nil)))
  (fun k => QuietOk.of (all_cons (fun h r => by cases h) (all_nil)))
  (fun a => rfl)
  (all_cons (ctGood codOk (by kernel_rfl) (by (repeat intro _); show _ = _; kernel_rfl) (fun k => by (repeat intro _); show _ = _; kernel_rfl)) (all_nil))
  (fun k => by (repeat intro _); show _ = _; kernel_rfl)
noncomputable def S_spec_DrawReadPacket (k : Nat) : Summ K TyK := sm cod (ByteArray × ByteArray × Int) [.pe] [.c (.l false .byte)] [] (spec_DrawReadPacket) k [.c (.s), .c (.s), .c (.i .i64)] [] (fun r => (r.1, r.2.1, r.2.2, ())) (fun v1 v2 v3 => (v1, v2, v3)) true
noncomputable abbrev L_spec_DrawReadPacket : List (Nat × Cut K TyK (ByteArray × ByteArray × Int)) := [(8, ct cod [5, 8, 9, 10] [.c (.r 0 0), .c (.s), .c (.i .i64), .c (.s)] [.x [.l false .byte, .i .i64]] spec_DrawReadPacket_l8),
  (9, ct cod [5, 6, 8, 9, 10, 27] [.c (.r 0 0), .c (.r 1 0), .c (.s), .c (.i .i64), .c (.s), .c (.i .i64)] [.x [.l false .byte, .i .i64], .x [.i .i64, .i .i64, .i .i64, .i .i64, .i .i64, .i .i64, .i .i64, .b, .s]] spec_DrawReadPacket_l9),
  (14, ct cod [8, 9, 10] [.c (.s), .c (.i .i64), .c (.s)] [] spec_DrawReadPacket_l14)]
theorem ok_spec_DrawReadPacket (k : Nat) : SummOk Try.prog cod 70 (S_spec_DrawReadPacket k) := sumOk codOk Try.f70 (fun k => lookT [(75, S_spec_l1Open k), (105, S_spec_l2Draw k), (107, S_spec_DrawTag k), (68, S_spec_FormPacket k), (76, S_spec_l1Rd_pick k), (112, S_spec_l1Bend k), (111, S_spec_l2Body k), (110, S_spec_Tag k)]) L_spec_DrawReadPacket false [.tmp 2, .tmp 3, .tmp 4] 0 [] mixed Try.func70 (by kernel_rfl) (by kernel_rfl) (by kernel_rfl) (by kernel_rfl)
  (fun k => Known.of tok eok codOk (all_cons (ok_spec_l1Open k) (all_cons (ok_spec_l2Draw k) (all_cons (ok_spec_DrawTag k) (all_cons (ok_spec_FormPacket k) (all_cons (ok_spec_l1Rd_pick k) (all_cons (ok_spec_l1Bend k) (all_cons (ok_spec_l2Body k) (all_cons (ok_spec_Tag k) (all_nil))))))))))
  (fun k => QuietOk.of (all_cons (fun h r => by cases h) (all_cons (fun h r => by cases h) (all_cons (fun h r => ⟨rfl, rfl⟩) (all_cons (fun h r => ⟨rfl, rfl⟩) (all_cons (fun h r => by cases h) (all_cons (fun h r => by cases h) (all_cons (fun h r => ⟨rfl, rfl⟩) (all_cons (fun h r => ⟨rfl, rfl⟩) (all_nil))))))))))
  (fun a => rfl)
  (all_cons (ctGood codOk (by kernel_rfl) (by (repeat intro _); show _ = _; kernel_rfl) (fun k => by (repeat intro _); show _ = _; kernel_rfl)) (all_cons (ctGood codOk (by kernel_rfl) (by (repeat intro _); show _ = _; kernel_rfl) (fun k => by (repeat intro _); show _ = _; kernel_rfl)) (all_cons (ctGood codOk (by kernel_rfl) (by (repeat intro _); show _ = _; kernel_rfl) (fun k => by (repeat intro _); show _ = _; kernel_rfl)) (all_nil))))
  (fun k => by (repeat intro _); show _ = _; kernel_rfl)
noncomputable def S_laws_FnPackets (k : Nat) : Summ K TyK := sm cod (Bool) [.pe] [.c (.l false .byte)] [] (laws_FnPackets) k [.c (.b)] [] (fun r => (r, ())) (fun v1 => v1) true
noncomputable abbrev L_laws_FnPackets : List (Nat × Cut K TyK (Bool)) := [(13, ct cod [0] [.c (.l false .byte)] [] laws_FnPackets_l13)]
theorem ok_laws_FnPackets (k : Nat) : SummOk Try.prog cod 14 (S_laws_FnPackets k) := sumOk codOk Try.f14 (fun k => lookT [(66, S_spec_DrawFormPacket k), (67, S_impl_FormPacket k), (68, S_spec_FormPacket k), (30, S_impl_ReadPacket k), (29, S_spec_ReadPacket k), (69, S_impl_Tag k), (70, S_spec_DrawReadPacket k)]) L_laws_FnPackets false [.tmp 2] 0 [] mixed Try.func14 (by kernel_rfl) (by kernel_rfl) (by kernel_rfl) (by kernel_rfl)
  (fun k => Known.of tok eok codOk (all_cons (ok_spec_DrawFormPacket k) (all_cons (ok_impl_FormPacket k) (all_cons (ok_spec_FormPacket k) (all_cons (ok_impl_ReadPacket k) (all_cons (ok_spec_ReadPacket k) (all_cons (ok_impl_Tag k) (all_cons (ok_spec_DrawReadPacket k) (all_nil)))))))))
  (fun k => QuietOk.of (all_cons (fun h r => ⟨rfl, rfl⟩) (all_cons (fun h r => ⟨rfl, rfl⟩) (all_cons (fun h r => ⟨rfl, rfl⟩) (all_cons (fun h r => ⟨rfl, rfl⟩) (all_cons (fun h r => ⟨rfl, rfl⟩) (all_cons (fun h r => ⟨rfl, rfl⟩) (all_cons (fun h r => ⟨rfl, rfl⟩) (all_nil)))))))))
  (fun a => rfl)
  (all_cons (ctGood codOk (by kernel_rfl) (by (repeat intro _); show _ = _; kernel_rfl) (fun k => by (repeat intro _); show _ = _; kernel_rfl)) (all_nil))
  (fun k => by (repeat intro _); show _ = _; kernel_rfl)
end Km.X
