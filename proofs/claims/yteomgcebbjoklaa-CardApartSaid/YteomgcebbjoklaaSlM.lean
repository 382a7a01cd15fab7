/-
  Sl, twelfth part: more operations. Any program.
-/
import Derived.Test.YteomgcebbjoklaaSlK
namespace Go.Sl
open Go
set_option linter.unusedVariables false
universe u
variable {td td' : TypeDesc} {kk bb : Nat} {zc : List Value}
section
variable {P : Program} {r : Option Nat} {n : Nat} {Q : PostT} {ρ : Env} {ds : List Deferred} {H R A : HP} {all rest : List Oper} {d : Option Nat} {t t' t'' T e : TypeId} {pos : String} {aft : Array Edge} {v v2 u : Value} {x y z : Operand}
  {k k' : IntKind} {s m cap n2 b o : Nat} {i j c : Int} {cs cs2 : List Value} {ts : Array TypeId} {a : Option Addr}
theorem Pu.index_arr {len : Nat} [TT : TyU P T (.array len e)] [S : TyS P e 1 bb zc] [TA : TyA P e false] (hx : ev ρ x = some (.agg cs.toArray)) (hy : ev ρ y = some (.int k i)) (hi : 0 ≤ i ∧ i < len) (hc : cs[i.toNat]? = some v) :
    Pu P n ρ H (.index T x y) t v :=
  Pu.mk (by simp) (fun a' w hr => by simp [execOp, ev_eval hr hx, ev_eval hr hy, Instr.index, asIntOf, run_under, run_size, run_agg, hi.1, hi.2, part, hc])
theorem Pu.index_str {bs : ByteArray} {c : UInt8} [TT : TyU P T .string] (hx : ev ρ x = some (.string bs)) (hy : ev ρ y = some (.int k i)) (hi : 0 ≤ i) (hc : bs[i.toNat]? = some c) :
    Pu P n ρ H (.index T x y) t (.int .u8 c.toNat) :=
  Pu.mk (by simp) (fun a' w hr => by simp [execOp, ev_eval hr hx, ev_eval hr hy, Instr.index, asIntOf, run_under, hi, hc])
theorem Evs.nil : Evs ρ [] [] := trivial
theorem Evs.cons {xs : List Operand} {vs : List Value} (hx : ev ρ x = some v) (h : Evs ρ xs vs) : Evs ρ (x :: xs) (v :: vs) := ⟨hx, h⟩
theorem Pu.bld1 {i0 : Nat} {x0 : Operand} {v0 : Value} {f : List Value → List Value} [B : TyB P T [i0] f] (h0 : ev ρ x0 = some v0) (hb : ∀ w, (Instr.build T #[(i0, v0)]).run P w = .ok (.agg (f [v0]).toArray) w) : Pu P n ρ H (.build T #[(i0, x0)]) t (.agg (f [v0]).toArray) :=
  Pu.build (ps := [(i0, x0)]) (vs := [v0]) ⟨h0, trivial⟩ hb
theorem Ow.bldS1 {i0 : Nat} {x0 : Operand} {v0 : Value} {f : List Value → List Value} [TT : TyU P T (.slice e)] [B : TyBS P T m e [i0] f] (hd : dOk n d = true) (h0 : ev ρ x0 = some v0) (hb : ∀ w, (Instr.buildSlice T m #[(i0, v0)]).run P w = .ok (.slice (some ⟨w.heap.size, 0, none⟩) m m) { w with heap := w.heap.push (.cells (f [v0]).toArray e (0, 0)) })
    (h : ∀ b, Ow P r n all rest Q (putE d (.slice (some ⟨b, 0, none⟩) m m) ρ) ds (cl b (f [v0]) * H)) : Ow P r n all (⟨d, .buildSlice T m #[(i0, x0)], t, pos, aft, none⟩ :: rest) Q ρ ds H :=
  Ow.buildSlice (e := e) (ps := [(i0, x0)]) (vs := [v0]) hd ⟨h0, trivial⟩ hb h
theorem Pu.bld2 {i0 i1 : Nat} {x0 x1 : Operand} {v0 v1 : Value} {f : List Value → List Value} [B : TyB P T [i0, i1] f] (h0 : ev ρ x0 = some v0) (h1 : ev ρ x1 = some v1) (hb : ∀ w, (Instr.build T #[(i0, v0), (i1, v1)]).run P w = .ok (.agg (f [v0, v1]).toArray) w) : Pu P n ρ H (.build T #[(i0, x0), (i1, x1)]) t (.agg (f [v0, v1]).toArray) :=
  Pu.build (ps := [(i0, x0), (i1, x1)]) (vs := [v0, v1]) ⟨h0, h1, trivial⟩ hb
theorem Ow.bldS2 {i0 i1 : Nat} {x0 x1 : Operand} {v0 v1 : Value} {f : List Value → List Value} [TT : TyU P T (.slice e)] [B : TyBS P T m e [i0, i1] f] (hd : dOk n d = true) (h0 : ev ρ x0 = some v0) (h1 : ev ρ x1 = some v1) (hb : ∀ w, (Instr.buildSlice T m #[(i0, v0), (i1, v1)]).run P w = .ok (.slice (some ⟨w.heap.size, 0, none⟩) m m) { w with heap := w.heap.push (.cells (f [v0, v1]).toArray e (0, 0)) })
    (h : ∀ b, Ow P r n all rest Q (putE d (.slice (some ⟨b, 0, none⟩) m m) ρ) ds (cl b (f [v0, v1]) * H)) : Ow P r n all (⟨d, .buildSlice T m #[(i0, x0), (i1, x1)], t, pos, aft, none⟩ :: rest) Q ρ ds H :=
  Ow.buildSlice (e := e) (ps := [(i0, x0), (i1, x1)]) (vs := [v0, v1]) hd ⟨h0, h1, trivial⟩ hb h
theorem Pu.bld3 {i0 i1 i2 : Nat} {x0 x1 x2 : Operand} {v0 v1 v2 : Value} {f : List Value → List Value} [B : TyB P T [i0, i1, i2] f] (h0 : ev ρ x0 = some v0) (h1 : ev ρ x1 = some v1) (h2 : ev ρ x2 = some v2) (hb : ∀ w, (Instr.build T #[(i0, v0), (i1, v1), (i2, v2)]).run P w = .ok (.agg (f [v0, v1, v2]).toArray) w) : Pu P n ρ H (.build T #[(i0, x0), (i1, x1), (i2, x2)]) t (.agg (f [v0, v1, v2]).toArray) :=
  Pu.build (ps := [(i0, x0), (i1, x1), (i2, x2)]) (vs := [v0, v1, v2]) ⟨h0, h1, h2, trivial⟩ hb
theorem Ow.bldS3 {i0 i1 i2 : Nat} {x0 x1 x2 : Operand} {v0 v1 v2 : Value} {f : List Value → List Value} [TT : TyU P T (.slice e)] [B : TyBS P T m e [i0, i1, i2] f] (hd : dOk n d = true) (h0 : ev ρ x0 = some v0) (h1 : ev ρ x1 = some v1) (h2 : ev ρ x2 = some v2) (hb : ∀ w, (Instr.buildSlice T m #[(i0, v0), (i1, v1), (i2, v2)]).run P w = .ok (.slice (some ⟨w.heap.size, 0, none⟩) m m) { w with heap := w.heap.push (.cells (f [v0, v1, v2]).toArray e (0, 0)) })
    (h : ∀ b, Ow P r n all rest Q (putE d (.slice (some ⟨b, 0, none⟩) m m) ρ) ds (cl b (f [v0, v1, v2]) * H)) : Ow P r n all (⟨d, .buildSlice T m #[(i0, x0), (i1, x1), (i2, x2)], t, pos, aft, none⟩ :: rest) Q ρ ds H :=
  Ow.buildSlice (e := e) (ps := [(i0, x0), (i1, x1), (i2, x2)]) (vs := [v0, v1, v2]) hd ⟨h0, h1, h2, trivial⟩ hb h
theorem Pu.bld4 {i0 i1 i2 i3 : Nat} {x0 x1 x2 x3 : Operand} {v0 v1 v2 v3 : Value} {f : List Value → List Value} [B : TyB P T [i0, i1, i2, i3] f] (h0 : ev ρ x0 = some v0) (h1 : ev ρ x1 = some v1) (h2 : ev ρ x2 = some v2) (h3 : ev ρ x3 = some v3) (hb : ∀ w, (Instr.build T #[(i0, v0), (i1, v1), (i2, v2), (i3, v3)]).run P w = .ok (.agg (f [v0, v1, v2, v3]).toArray) w) : Pu P n ρ H (.build T #[(i0, x0), (i1, x1), (i2, x2), (i3, x3)]) t (.agg (f [v0, v1, v2, v3]).toArray) :=
  Pu.build (ps := [(i0, x0), (i1, x1), (i2, x2), (i3, x3)]) (vs := [v0, v1, v2, v3]) ⟨h0, h1, h2, h3, trivial⟩ hb
theorem Ow.bldS4 {i0 i1 i2 i3 : Nat} {x0 x1 x2 x3 : Operand} {v0 v1 v2 v3 : Value} {f : List Value → List Value} [TT : TyU P T (.slice e)] [B : TyBS P T m e [i0, i1, i2, i3] f] (hd : dOk n d = true) (h0 : ev ρ x0 = some v0) (h1 : ev ρ x1 = some v1) (h2 : ev ρ x2 = some v2) (h3 : ev ρ x3 = some v3) (hb : ∀ w, (Instr.buildSlice T m #[(i0, v0), (i1, v1), (i2, v2), (i3, v3)]).run P w = .ok (.slice (some ⟨w.heap.size, 0, none⟩) m m) { w with heap := w.heap.push (.cells (f [v0, v1, v2, v3]).toArray e (0, 0)) })
    (h : ∀ b, Ow P r n all rest Q (putE d (.slice (some ⟨b, 0, none⟩) m m) ρ) ds (cl b (f [v0, v1, v2, v3]) * H)) : Ow P r n all (⟨d, .buildSlice T m #[(i0, x0), (i1, x1), (i2, x2), (i3, x3)], t, pos, aft, none⟩ :: rest) Q ρ ds H :=
  Ow.buildSlice (e := e) (ps := [(i0, x0), (i1, x1), (i2, x2), (i3, x3)]) (vs := [v0, v1, v2, v3]) hd ⟨h0, h1, h2, h3, trivial⟩ hb h
theorem Pu.bld5 {i0 i1 i2 i3 i4 : Nat} {x0 x1 x2 x3 x4 : Operand} {v0 v1 v2 v3 v4 : Value} {f : List Value → List Value} [B : TyB P T [i0, i1, i2, i3, i4] f] (h0 : ev ρ x0 = some v0) (h1 : ev ρ x1 = some v1) (h2 : ev ρ x2 = some v2) (h3 : ev ρ x3 = some v3) (h4 : ev ρ x4 = some v4) (hb : ∀ w, (Instr.build T #[(i0, v0), (i1, v1), (i2, v2), (i3, v3), (i4, v4)]).run P w = .ok (.agg (f [v0, v1, v2, v3, v4]).toArray) w) : Pu P n ρ H (.build T #[(i0, x0), (i1, x1), (i2, x2), (i3, x3), (i4, x4)]) t (.agg (f [v0, v1, v2, v3, v4]).toArray) :=
  Pu.build (ps := [(i0, x0), (i1, x1), (i2, x2), (i3, x3), (i4, x4)]) (vs := [v0, v1, v2, v3, v4]) ⟨h0, h1, h2, h3, h4, trivial⟩ hb
theorem Ow.bldS5 {i0 i1 i2 i3 i4 : Nat} {x0 x1 x2 x3 x4 : Operand} {v0 v1 v2 v3 v4 : Value} {f : List Value → List Value} [TT : TyU P T (.slice e)] [B : TyBS P T m e [i0, i1, i2, i3, i4] f] (hd : dOk n d = true) (h0 : ev ρ x0 = some v0) (h1 : ev ρ x1 = some v1) (h2 : ev ρ x2 = some v2) (h3 : ev ρ x3 = some v3) (h4 : ev ρ x4 = some v4) (hb : ∀ w, (Instr.buildSlice T m #[(i0, v0), (i1, v1), (i2, v2), (i3, v3), (i4, v4)]).run P w = .ok (.slice (some ⟨w.heap.size, 0, none⟩) m m) { w with heap := w.heap.push (.cells (f [v0, v1, v2, v3, v4]).toArray e (0, 0)) })
    (h : ∀ b, Ow P r n all rest Q (putE d (.slice (some ⟨b, 0, none⟩) m m) ρ) ds (cl b (f [v0, v1, v2, v3, v4]) * H)) : Ow P r n all (⟨d, .buildSlice T m #[(i0, x0), (i1, x1), (i2, x2), (i3, x3), (i4, x4)], t, pos, aft, none⟩ :: rest) Q ρ ds H :=
  Ow.buildSlice (e := e) (ps := [(i0, x0), (i1, x1), (i2, x2), (i3, x3), (i4, x4)]) (vs := [v0, v1, v2, v3, v4]) hd ⟨h0, h1, h2, h3, h4, trivial⟩ hb h
theorem Pu.bld6 {i0 i1 i2 i3 i4 i5 : Nat} {x0 x1 x2 x3 x4 x5 : Operand} {v0 v1 v2 v3 v4 v5 : Value} {f : List Value → List Value} [B : TyB P T [i0, i1, i2, i3, i4, i5] f] (h0 : ev ρ x0 = some v0) (h1 : ev ρ x1 = some v1) (h2 : ev ρ x2 = some v2) (h3 : ev ρ x3 = some v3) (h4 : ev ρ x4 = some v4) (h5 : ev ρ x5 = some v5) (hb : ∀ w, (Instr.build T #[(i0, v0), (i1, v1), (i2, v2), (i3, v3), (i4, v4), (i5, v5)]).run P w = .ok (.agg (f [v0, v1, v2, v3, v4, v5]).toArray) w) : Pu P n ρ H (.build T #[(i0, x0), (i1, x1), (i2, x2), (i3, x3), (i4, x4), (i5, x5)]) t (.agg (f [v0, v1, v2, v3, v4, v5]).toArray) :=
  Pu.build (ps := [(i0, x0), (i1, x1), (i2, x2), (i3, x3), (i4, x4), (i5, x5)]) (vs := [v0, v1, v2, v3, v4, v5]) ⟨h0, h1, h2, h3, h4, h5, trivial⟩ hb
theorem Ow.bldS6 {i0 i1 i2 i3 i4 i5 : Nat} {x0 x1 x2 x3 x4 x5 : Operand} {v0 v1 v2 v3 v4 v5 : Value} {f : List Value → List Value} [TT : TyU P T (.slice e)] [B : TyBS P T m e [i0, i1, i2, i3, i4, i5] f] (hd : dOk n d = true) (h0 : ev ρ x0 = some v0) (h1 : ev ρ x1 = some v1) (h2 : ev ρ x2 = some v2) (h3 : ev ρ x3 = some v3) (h4 : ev ρ x4 = some v4) (h5 : ev ρ x5 = some v5) (hb : ∀ w, (Instr.buildSlice T m #[(i0, v0), (i1, v1), (i2, v2), (i3, v3), (i4, v4), (i5, v5)]).run P w = .ok (.slice (some ⟨w.heap.size, 0, none⟩) m m) { w with heap := w.heap.push (.cells (f [v0, v1, v2, v3, v4, v5]).toArray e (0, 0)) })
    (h : ∀ b, Ow P r n all rest Q (putE d (.slice (some ⟨b, 0, none⟩) m m) ρ) ds (cl b (f [v0, v1, v2, v3, v4, v5]) * H)) : Ow P r n all (⟨d, .buildSlice T m #[(i0, x0), (i1, x1), (i2, x2), (i3, x3), (i4, x4), (i5, x5)], t, pos, aft, none⟩ :: rest) Q ρ ds H :=
  Ow.buildSlice (e := e) (ps := [(i0, x0), (i1, x1), (i2, x2), (i3, x3), (i4, x4), (i5, x5)]) (vs := [v0, v1, v2, v3, v4, v5]) hd ⟨h0, h1, h2, h3, h4, h5, trivial⟩ hb h
theorem Pu.bld7 {i0 i1 i2 i3 i4 i5 i6 : Nat} {x0 x1 x2 x3 x4 x5 x6 : Operand} {v0 v1 v2 v3 v4 v5 v6 : Value} {f : List Value → List Value} [B : TyB P T [i0, i1, i2, i3, i4, i5, i6] f] (h0 : ev ρ x0 = some v0) (h1 : ev ρ x1 = some v1) (h2 : ev ρ x2 = some v2) (h3 : ev ρ x3 = some v3) (h4 : ev ρ x4 = some v4) (h5 : ev ρ x5 = some v5) (h6 : ev ρ x6 = some v6) (hb : ∀ w, (Instr.build T #[(i0, v0), (i1, v1), (i2, v2), (i3, v3), (i4, v4), (i5, v5), (i6, v6)]).run P w = .ok (.agg (f [v0, v1, v2, v3, v4, v5, v6]).toArray) w) : Pu P n ρ H (.build T #[(i0, x0), (i1, x1), (i2, x2), (i3, x3), (i4, x4), (i5, x5), (i6, x6)]) t (.agg (f [v0, v1, v2, v3, v4, v5, v6]).toArray) :=
  Pu.build (ps := [(i0, x0), (i1, x1), (i2, x2), (i3, x3), (i4, x4), (i5, x5), (i6, x6)]) (vs := [v0, v1, v2, v3, v4, v5, v6]) ⟨h0, h1, h2, h3, h4, h5, h6, trivial⟩ hb
theorem Ow.bldS7 {i0 i1 i2 i3 i4 i5 i6 : Nat} {x0 x1 x2 x3 x4 x5 x6 : Operand} {v0 v1 v2 v3 v4 v5 v6 : Value} {f : List Value → List Value} [TT : TyU P T (.slice e)] [B : TyBS P T m e [i0, i1, i2, i3, i4, i5, i6] f] (hd : dOk n d = true) (h0 : ev ρ x0 = some v0) (h1 : ev ρ x1 = some v1) (h2 : ev ρ x2 = some v2) (h3 : ev ρ x3 = some v3) (h4 : ev ρ x4 = some v4) (h5 : ev ρ x5 = some v5) (h6 : ev ρ x6 = some v6) (hb : ∀ w, (Instr.buildSlice T m #[(i0, v0), (i1, v1), (i2, v2), (i3, v3), (i4, v4), (i5, v5), (i6, v6)]).run P w = .ok (.slice (some ⟨w.heap.size, 0, none⟩) m m) { w with heap := w.heap.push (.cells (f [v0, v1, v2, v3, v4, v5, v6]).toArray e (0, 0)) })
    (h : ∀ b, Ow P r n all rest Q (putE d (.slice (some ⟨b, 0, none⟩) m m) ρ) ds (cl b (f [v0, v1, v2, v3, v4, v5, v6]) * H)) : Ow P r n all (⟨d, .buildSlice T m #[(i0, x0), (i1, x1), (i2, x2), (i3, x3), (i4, x4), (i5, x5), (i6, x6)], t, pos, aft, none⟩ :: rest) Q ρ ds H :=
  Ow.buildSlice (e := e) (ps := [(i0, x0), (i1, x1), (i2, x2), (i3, x3), (i4, x4), (i5, x5), (i6, x6)]) (vs := [v0, v1, v2, v3, v4, v5, v6]) hd ⟨h0, h1, h2, h3, h4, h5, h6, trivial⟩ hb h
theorem Pu.bld8 {i0 i1 i2 i3 i4 i5 i6 i7 : Nat} {x0 x1 x2 x3 x4 x5 x6 x7 : Operand} {v0 v1 v2 v3 v4 v5 v6 v7 : Value} {f : List Value → List Value} [B : TyB P T [i0, i1, i2, i3, i4, i5, i6, i7] f] (h0 : ev ρ x0 = some v0) (h1 : ev ρ x1 = some v1) (h2 : ev ρ x2 = some v2) (h3 : ev ρ x3 = some v3) (h4 : ev ρ x4 = some v4) (h5 : ev ρ x5 = some v5) (h6 : ev ρ x6 = some v6) (h7 : ev ρ x7 = some v7) (hb : ∀ w, (Instr.build T #[(i0, v0), (i1, v1), (i2, v2), (i3, v3), (i4, v4), (i5, v5), (i6, v6), (i7, v7)]).run P w = .ok (.agg (f [v0, v1, v2, v3, v4, v5, v6, v7]).toArray) w) : Pu P n ρ H (.build T #[(i0, x0), (i1, x1), (i2, x2), (i3, x3), (i4, x4), (i5, x5), (i6, x6), (i7, x7)]) t (.agg (f [v0, v1, v2, v3, v4, v5, v6, v7]).toArray) :=
  Pu.build (ps := [(i0, x0), (i1, x1), (i2, x2), (i3, x3), (i4, x4), (i5, x5), (i6, x6), (i7, x7)]) (vs := [v0, v1, v2, v3, v4, v5, v6, v7]) ⟨h0, h1, h2, h3, h4, h5, h6, h7, trivial⟩ hb
theorem Ow.bldS8 {i0 i1 i2 i3 i4 i5 i6 i7 : Nat} {x0 x1 x2 x3 x4 x5 x6 x7 : Operand} {v0 v1 v2 v3 v4 v5 v6 v7 : Value} {f : List Value → List Value} [TT : TyU P T (.slice e)] [B : TyBS P T m e [i0, i1, i2, i3, i4, i5, i6, i7] f] (hd : dOk n d = true) (h0 : ev ρ x0 = some v0) (h1 : ev ρ x1 = some v1) (h2 : ev ρ x2 = some v2) (h3 : ev ρ x3 = some v3) (h4 : ev ρ x4 = some v4) (h5 : ev ρ x5 = some v5) (h6 : ev ρ x6 = some v6) (h7 : ev ρ x7 = some v7) (hb : ∀ w, (Instr.buildSlice T m #[(i0, v0), (i1, v1), (i2, v2), (i3, v3), (i4, v4), (i5, v5), (i6, v6), (i7, v7)]).run P w = .ok (.slice (some ⟨w.heap.size, 0, none⟩) m m) { w with heap := w.heap.push (.cells (f [v0, v1, v2, v3, v4, v5, v6, v7]).toArray e (0, 0)) })
    (h : ∀ b, Ow P r n all rest Q (putE d (.slice (some ⟨b, 0, none⟩) m m) ρ) ds (cl b (f [v0, v1, v2, v3, v4, v5, v6, v7]) * H)) : Ow P r n all (⟨d, .buildSlice T m #[(i0, x0), (i1, x1), (i2, x2), (i3, x3), (i4, x4), (i5, x5), (i6, x6), (i7, x7)], t, pos, aft, none⟩ :: rest) Q ρ ds H :=
  Ow.buildSlice (e := e) (ps := [(i0, x0), (i1, x1), (i2, x2), (i3, x3), (i4, x4), (i5, x5), (i6, x6), (i7, x7)]) (vs := [v0, v1, v2, v3, v4, v5, v6, v7]) hd ⟨h0, h1, h2, h3, h4, h5, h6, h7, trivial⟩ hb h
/-! places whose number is a natural one -/
theorem Pu.idx_sln [TT : TyU P T (.slice e)] [S : TyS P e 1 bb zc] {j : Nat} (hx : ev ρ x = some v) (hy : ev ρ y = some (.int k (j : Int))) (hp : Pk H (slk 1 v cs) R) (hi : j < cs.length) :
    Pu P n ρ H (.indexAddr T x y) t (.pointer (some ((sbase v).add j))) := Pu.idx_sl (i := j) hx hy hp (by omega)
theorem Pu.idx_roin [TT : TyU P T (.slice e)] [S : TyS P e 1 bb zc] {j : Nat} (hr : Ro A a m 1 cs) (hx : ev ρ x = some (.slice a m cap)) (hy : ev ρ y = some (.int k (j : Int))) (hi : j < m) :
    Pu P n ρ H (.indexAddr T x y) t (.pointer (some ((adr a).add j))) := Pu.idx_roi (i := j) hr hx hy (by omega)
theorem Pu.idx_ron [TT : TyU P T (.slice e)] [S : TyS P e s bb zc] {j : Nat} (hr : Ro A a m s cs) (hx : ev ρ x = some (.slice a m cap)) (hy : ev ρ y = some (.int k (j : Int))) (hs0 : 0 < s) (hi : j < m) :
    Pu P n ρ H (.indexAddr T x y) t (.pointer (some ((adr a).add (j * s)))) := Pu.idx_ro (i := j) hr hx hy hs0 (by omega)
theorem Pu.makeFunc {fn : FuncId} {xs : List Operand} {vs : List Value} (hxs : Evs ρ xs vs) : Pu P n ρ H (.makeFunc (.func fn) #[] xs.toArray) t (.func (.func fn) #[] vs.toArray) :=
  Pu.mk (by simp) (fun a' w hr => by
    have hm : Array.map a'.eval xs.toArray = vs.toArray := by rw [← Evs.eval hr hxs]; simp
    simp [execOp, Instr.makeFunc, hm])
/-- What stands between two parts of the code. -/
theorem Cw.cut {σ : Type u} {c y : Code} (I : σ → Prop) (ρM : σ → Env) (dsM : σ → List Deferred) (HM : σ → HP)
    (h1 : Cw P r n c (thenQ (fun ρ' ds' H' => ∃ s, I s ∧ ds' = dsM s ∧ Sub ρ' (ρM s) ∧ Ent H' (HM s)) Q) ρ ds H) (h2 : ∀ s, I s → Cw P r n y Q (ρM s) (dsM s) (HM s)) : Cw P r n (.seq c y) Q ρ ds H :=
  Cw.seq (h1.mono fun e ρ' ds' H' h => by
    cases e with
    | normal =>
      obtain ⟨s, hI, rfl, hsub, hent⟩ := h
      exact Cw.ent hent (Cw.sub hsub (h2 s hI))
    | exit id => exact h
    | goto l => exact h
    | ret => exact h
    | panic c => exact h
    | outgrown => exact h)
theorem Cw.midB {σ : Type u} {c y : Code} {id : Nat} (I : σ → Prop) (ρM : σ → Env) (dsM : σ → List Deferred) (HM : σ → HP)
    (h1 : Cw P r n c (blockQ id (thenQ (fun ρ' ds' H' => ∃ s, I s ∧ ds' = dsM s ∧ Sub ρ' (ρM s) ∧ Ent H' (HM s)) Q)) ρ ds H) (h2 : ∀ s, I s → Cw P r n y Q (ρM s) (dsM s) (HM s)) :
    Cw P r n c (blockQ id (thenQ (fun ρ ds H => Cw P r n y Q ρ ds H) Q)) ρ ds H :=
  h1.mono fun e ρ' ds' H' h => by
    cases e with
    | normal =>
      obtain ⟨s, hI, rfl, hsub, hent⟩ := h
      exact Cw.ent hent (Cw.sub hsub (h2 s hI))
    | exit id' =>
      simp only [blockQ] at h ⊢
      cases hb : Nat.beq id' id with
      | true =>
        rw [hb] at h
        obtain ⟨s, hI, rfl, hsub, hent⟩ := h
        exact Cw.ent hent (Cw.sub hsub (h2 s hI))
      | false => rw [hb] at h; exact h
    | goto l => exact h
    | ret => exact h
    | panic c => exact h
    | outgrown => exact h
theorem rdQ_n {B : HP} {J : Exit → Prop} {S : Exit → HP} (h : Ent H B) : rdQ B J S .normal ρ ds H := .inl ⟨rfl, h⟩
theorem rdQ_j {B : HP} {J : Exit → Prop} {S : Exit → HP} {ex : Exit} (hj : J ex) (hs : (jumpOf ex).isSome = true) (h : Ent H (S ex)) : rdQ B J S ex ρ ds H := .inr ⟨hj, hs, h⟩
theorem retQ_m {fn : Func} {β : Type u} {val : β → Value} {post : β → HP} {F : HP} {ex : Exit} {D : Nat} {H' : HP} (he : ex = .normal ∨ ex = .ret) (hp : Pk H (pt D (.deferred (some []))) H') (w : β) (hres : Res P fn ρ (pt D (.deferred none) * H') (val w)) (hH : Ent H' (post w * F)) : retQ P fn val post F ex ρ [mk D] H :=
  ⟨he, D, H', rfl, Ent.of_eq hp, w, hres, Ent.trans (Ent.drop_left _ _) hH⟩
theorem retQ_mm {fn : Func} {β : Type u} {val : β → Value} {post : β → HP} {F : HP} {ex : Exit} {D D' : Nat} {H' H2 : HP} (he : ex = .normal ∨ ex = .ret) (hp : Pk H (pt D (.deferred (some []))) H') (hp2 : Pk H' (pt D' (.deferred (some []))) H2) (w : β)
    (hres : Res P fn ρ (pt D' (.deferred none) * (pt D (.deferred none) * H2)) (val w)) (hH : Ent H2 (post w * F)) : retQ P fn val post F ex ρ [mk D, mk D'] H := by
  unfold Pk at hp hp2
  refine ⟨he, D, H', rfl, Ent.of_eq hp, D', pt D (.deferred none) * H2, rfl, Ent.of_eq (by rw [hp2, star_left_comm]), w, hres, Ent.trans (Ent.drop_left _ _) (Ent.trans (Ent.drop_left _ _) hH)⟩
theorem Ow.yc2 {y : Value} {vs : List Value} {A1 A2 R1 F : HP} {post : Bool → HP} {xs : List Operand} (hy : Yc P y vs (A1 * A2) post) (hd : dOk n d = true) (hx : ev ρ x = some y) (hxs : Evs ρ xs vs) (hp : Pk H A1 R1) (hp2 : Pk R1 A2 F)
    (h : ∀ b, Ow P r n all rest Q (putE d (.bool b) ρ) ds (post b * F)) :
    Ow P r n all (⟨d, .call { callee := .value x, args := xs.toArray, argTypes := ts }, t, pos, aft, none⟩ :: rest) Q ρ ds H :=
  Ow.yc hy hd hx hxs (by unfold Pk at *; rw [hp, hp2, star_assoc]) h
theorem Pu.neg_i (hx : ev ρ x = some (.int .i64 i)) (hc : -9223372036854775807 ≤ i ∧ i ≤ 9223372036854775807) : Pu P n ρ H (.unOp .neg t x) t'' (.int .i64 (0 - i)) := Pu.neg hx (wrap_i64 (by omega))
end
theorem and_i64 (a : Int) (b : Nat) (hb : b < 9223372036854775808) : 0 ≤ andI .i64 a b ∧ andI .i64 a b ≤ b := by
  have h : ((BitVec.ofInt IntKind.i64.bits a &&& BitVec.ofInt IntKind.i64.bits (b : Int)).toNat : Int) ≤ b := by
    rw [BitVec.toNat_and]
    have h1 : (BitVec.ofInt IntKind.i64.bits (b : Int)).toNat ≤ b := by
      simp only [BitVec.toNat_ofInt, IntKind.bits]
      omega
    have := Nat.and_le_right (n := (BitVec.ofInt IntKind.i64.bits a).toNat) (m := (BitVec.ofInt IntKind.i64.bits (b : Int)).toNat)
    omega
  unfold andI
  rw [wrap_i64 (by omega)]
  omega
end Go.Sl
