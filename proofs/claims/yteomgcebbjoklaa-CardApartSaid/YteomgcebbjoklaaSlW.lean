/- Bytes: slices of them, owned or only read; strings of them. -/
import Derived.Test.YteomgcebbjoklaaSlV
import Derived.Laws.BytesString
namespace Go.Sl
open Go
set_option linter.unusedVariables false
set_option linter.unusedSimpArgs false
universe u
abbrev vb (n : Int) : Value := .int .u8 n
def bs (l : List Int) : ByteArray := ⟨(l.map fun n => UInt8.ofNat n.toNat).toArray⟩
variable {P : Program} {r : Option Nat} {n : Nat} {Q : PostT} {ρ : Env} {ds : List Deferred} {H A R : HP} {t t' t'' T S' e : TypeId} {x y : Operand} {all rest : List Oper} {d : Option Nat} {pos : String} {aft : Array Edge} {v v2 : Value} {bb m cap : Nat} {zc : List Value} {k k' : IntKind} {i : Int} {a : Option Addr} {ts : Array TypeId} {l l2 : List Int}
/-- Bytes that can be read: where, and that they are bytes. -/
structure Vw (A : HP) (a : Option Addr) (m cap : Nat) (l : List Int) : Prop where
  ro : Ro A a m 1 (l.map vb)
  le : m ≤ cap
  nil : a = none → cap = 0
  by_ : ∀ c ∈ l, 0 ≤ c ∧ c ≤ 255
theorem Vw.len (h : Vw A a m cap l) : l.length = m := by have := h.ro.1; simpa using this
theorem Vw.byte (h : Vw A a m cap l) {j : Nat} (hj : j < m) : 0 ≤ l[j]! ∧ l[j]! ≤ 255 := by
  have hl := h.len
  rw [getElem!_pos l j (by omega)]
  exact h.by_ _ (List.getElem_mem _)
theorem add_zero (a : Addr) : a.add 0 = a := by
  obtain ⟨b, o, s⟩ := a
  unfold Addr.add
  cases s <;> simp
theorem Vw.hi (h : Vw A a m cap l) {i : Nat} (hi : i ≤ m) : Vw A a i cap (l.take i) := by
  have hl := h.len
  refine ⟨⟨by simp; omega, fun j u hj => ?_⟩, Nat.le_trans hi h.le, h.nil, fun c hc => h.by_ c (List.mem_of_mem_take hc)⟩
  refine h.ro.2 j u ?_
  rw [List.map_take, List.getElem?_take] at hj
  split at hj
  · exact hj
  · cases hj
def loA (a : Option Addr) (cap i : Nat) : Option Addr := if cap = i then a else a.map (·.add i)
theorem Vw.lo (h : Vw A a m cap l) {i : Nat} (hi : i ≤ m) : Vw A (loA a cap i) (m - i) (cap - i) (l.drop i) := by
  have hl := h.len
  have hc := h.le
  refine ⟨⟨by simp; omega, fun j u hj => ?_⟩, by omega, fun hn => ?_, fun c hc => h.by_ c (List.mem_of_mem_drop hc)⟩
  rotate_left
  · have : a = none := by unfold loA at hn; split at hn; exact hn; cases a; rfl; cases hn
    have := h.nil this; omega
  rw [List.map_drop, List.getElem?_drop] at hj
  have hlt : i + j < m := by have := (List.getElem?_eq_some_iff.1 hj).1; simp at this; omega
  obtain ⟨h1, h2⟩ := h.ro.2 (i + j) u hj
  obtain ⟨ad, rfl⟩ : ∃ ad, a = some ad := by cases a with | none => cases h1 | some ad => exact ⟨ad, rfl⟩
  rw [loA, if_neg (by omega)]
  refine ⟨rfl, ?_⟩
  simp only [Option.map_some, adr, Option.getD_some] at h2 ⊢
  rw [addr_add2]; exact h2
theorem Pu.slice_hi [TT : TyU P T (.slice e)] [S : TyS P e 1 bb zc] (hx : ev ρ x = some (.slice a m cap)) (hy : ev ρ y = some (.int k i)) (hi : 0 ≤ i ∧ i ≤ cap) : Pu P n ρ H (.slice T x none (some y) none) t (.slice a i.toNat cap) :=
  Pu.mk (by simp) (fun a' w hr => by
    cases a with
    | none => simp [execOp, ev_eval hr hx, ev_eval hr hy, Instr.sliceAt, Instr.slice, Instr.sliceBounds, Instr.sliceBound, asIntOf, run_under, run_size, hi.1, hi.2]
    | some ad => simp [execOp, ev_eval hr hx, ev_eval hr hy, Instr.sliceAt, Instr.slice, Instr.sliceBounds, Instr.sliceBound, asIntOf, run_under, run_size, hi.1, hi.2, add_zero])
theorem Pu.slice_lo [TT : TyU P T (.slice e)] [S : TyS P e 1 bb zc] (hx : ev ρ x = some (.slice a m cap)) (hy : ev ρ y = some (.int k i)) (hi : 0 ≤ i ∧ i ≤ m) : Pu P n ρ H (.slice T x (some y) none none) t (.slice (loA a cap i.toNat) (m - i.toNat) (cap - i.toNat)) :=
  Pu.mk (by simp) (fun a' w hr => by
    cases a with
    | none => simp [execOp, ev_eval hr hx, ev_eval hr hy, Instr.sliceAt, Instr.slice, Instr.sliceBounds, Instr.sliceBound, asIntOf, run_under, run_size, hi.1, hi.2, loA]
    | some ad => simp [execOp, ev_eval hr hx, ev_eval hr hy, Instr.sliceAt, Instr.slice, Instr.sliceBounds, Instr.sliceBound, asIntOf, run_under, run_size, hi.1, hi.2, loA])
theorem Pu.load_vw [TA : TyA P t false] {j : Nat} (hr : Vw A a m cap l) (hp : Pk H A R) (hx : ev ρ x = some (.pointer (some ((adr a).add j)))) (hj : j < m) : Pu P n ρ H (.load t x) t' (vb l[j]!) := by
  have hl := hr.len
  exact Pu.load hx hp (hr.ro.2 j _ (by rw [List.getElem?_map]; simp [show j < l.length by omega])).2
theorem Pu.idx_vw [TT : TyU P T (.slice e)] [S : TyS P e 1 bb zc] (hr : Vw A a m cap l) (hx : ev ρ x = some (.slice a m cap)) (hy : ev ρ y = some (.int k i)) (hi : 0 ≤ i ∧ i < m) :
    Pu P n ρ H (.indexAddr T x y) t (.pointer (some ((adr a).add i.toNat))) := Pu.idx_roi hr.ro hx hy hi
theorem Pu.idx_vwn [TT : TyU P T (.slice e)] [S : TyS P e 1 bb zc] {j : Nat} (hr : Vw A a m cap l) (hx : ev ρ x = some (.slice a m cap)) (hy : ev ρ y = some (.int k (j : Int))) (hi : j < m) :
    Pu P n ρ H (.indexAddr T x y) t (.pointer (some ((adr a).add j))) := Pu.idx_roin hr.ro hx hy hi
theorem Pu.load_slb [TA : TyA P t false] {j : Nat} (hx : ev ρ x = some (.pointer (some ((sbase v).add j)))) (hp : Pk H (slk 1 v (l.map vb)) R) (hj : j < l.length) : Pu P n ρ H (.load t x) t' (vb l[j]!) :=
  Pu.load_slk hx hp (by rw [List.getElem?_map]; simp [hj])
theorem Ow.append_slb {z0 : Value} [TT : TyU P T (.slice e)] [S : TyS P e 1 1 [z0]] (hd : dOk n d = true) (hx : ev ρ x = some v) (hy : ev ρ y = some v2) (hp : Pk H (slk 1 v (l.map vb)) R) (hq : RdSl R 1 v2 l2.length (l2.map vb)) (hbytes : l.length + l2.length ≤ 10000000000)
    (h : ∀ v' : SV, Ow P r n all rest Q (putE d v'.v ρ) ds (slk 1 v'.v ((l ++ l2).map vb) * R)) :
    Ow P r n all (⟨d, .call { callee := .builtin .append, args := #[x, y], argTypes := #[T, T] }, t, pos, aft, none⟩ :: rest) Q ρ ds H :=
  Ow.append (m := l.length) hd hx hy hp hq (by simp [Value.oneCell']) (by simp) (by omega) rfl (by omega) (fun v' => by rw [← List.map_append]; exact h v')
theorem rdSl_clb {b n2 cap : Nat} (h : l2.length = n2) : RdSl (cl b (l2.map vb)) 1 (.slice (some ⟨b, 0, none⟩) n2 cap) l2.length (l2.map vb) := by subst h; exact rdSl_cl (by simp)
theorem rdSl_slb : RdSl (slk 1 v (l2.map vb)) 1 v l2.length (l2.map vb) := rdSl_slk (by simp) (by omega)
theorem rdSl_vw (h : Vw A a m cap l2) : RdSl A 1 (.slice a m cap) l2.length (l2.map vb) := ⟨by simp, fun g w R hs => by
  have hl := h.len
  have hc := h.le
  cases a with
  | none =>
    have := h.nil rfl
    left
    obtain rfl : m = 0 := by omega
    obtain rfl : cap = 0 := by omega
    exact ⟨rfl, hl⟩
  | some ad => exact .inr ⟨ad, cap, by rw [hl], fun j u hj => hs.cell pk0 (h.ro.2 j u hj).2⟩⟩
theorem foldl_bs : ∀ (l : List Int) (b : ByteArray), l.foldl (fun r n => r.push (UInt8.ofNat n.toNat)) b = ⟨b.data ++ (l.map fun n => UInt8.ofNat n.toNat).toArray⟩
  | [], b => by simp
  | c :: l, b => by
    rw [List.foldl_cons, foldl_bs l]
    simp [ByteArray.push]
theorem Pu.b2s [TT : TyU P T (.slice e)] [TE : TyU P e (.int .u8)] [TS : TyU P S' .string] (hx : ev ρ x = some v) (hq : RdSl H 1 v l.length (l.map vb)) : Pu P n ρ H (.convert T S' x) t (.string (bs l)) :=
  Pu.mks (by simp) (fun w a' hr hst => by
    have hst' := hst
    rw [← star_emp H] at hst'
    have key : (convert T S' v).run P w = .ok (.string (bs l)) w := by
      rcases hq.2 _ _ _ hst' with ⟨rfl, h0⟩ | ⟨ad, c, rfl, hc⟩
      · have : l = [] := List.length_eq_zero_iff.1 h0
        subst this
        rw [run_convert_bytes_string w T S' e none 0 0 TT.h TE.h TS.h]
        rfl
      · rw [run_convert_bytes_string w T S' e _ _ c TT.h TE.h TS.h]
        have hl := run_loadCells (P := P) (w := w) (a := ad) (vs := l.map vb) 0 #[] (fun j v hv => by rw [Nat.zero_add]; exact hc j v hv)
        rw [run_bytesToString w ad l.length c l (by rw [List.length_map] at hl; simpa [loadCells] using hl), foldl_bs]
        simp [bs]
    simp [execOp, ev_eval hr hx, key])
theorem bs_nil : bs [] = ⟨#[]⟩ := rfl
theorem bs_append (l m : List Int) : bs l ++ bs m = bs (l ++ m) := by
  unfold bs
  apply ByteArray.ext
  simp
theorem bs_size (l : List Int) : (bs l).size = l.length := by simp [bs, ByteArray.size]
theorem Pu.addS (hx : ev ρ x = some (.string (bs l))) (hy : ev ρ y = some (.string (bs l2))) (hb : l.length + l2.length ≤ 1000000000000) : Pu P n ρ H (.binOp .add t x y t') t'' (.string (bs (l ++ l2))) :=
  Pu.bin hx hy (fun w => by simp [eqGuard]) (fun w => by
    have : ¬ (((bs l).size + (bs l2).size : Nat) : Int) > IntKind.i64.max := by rw [bs_size, bs_size]; simp [IntKind.max, IntKind.signed, IntKind.bits]; omega
    simp only [Go.binOp, Op.stringOp, if_neg this, bs_append, Sem.run_pure])
theorem bs_inj {l m : List Int} (hl : ∀ c ∈ l, 0 ≤ c ∧ c ≤ 255) (hm : ∀ c ∈ m, 0 ≤ c ∧ c ≤ 255) : (bs l).data.toList = (bs m).data.toList ↔ l = m := by
  constructor
  · intro h
    simp only [bs] at h
    have key : ∀ (l m : List Int), (∀ c ∈ l, 0 ≤ c ∧ c ≤ 255) → (∀ c ∈ m, 0 ≤ c ∧ c ≤ 255) → l.map (fun n => UInt8.ofNat n.toNat) = m.map (fun n => UInt8.ofNat n.toNat) → l = m := by
      intro l
      induction l with
      | nil => intro m _ _ h; cases m; rfl; simp at h
      | cons c l ih =>
        intro m h1 h2 h
        cases m with
        | nil => simp at h
        | cons e m =>
          simp only [List.map_cons, List.cons.injEq] at h
          have c1 := h1 c (List.mem_cons_self ..)
          have c2 := h2 e (List.mem_cons_self ..)
          have : c = e := by
            have := congrArg UInt8.toNat h.1
            simp only [UInt8.toNat_ofNat'] at this
            omega
          rw [this, ih m (fun x hx => h1 x (List.mem_cons_of_mem _ hx)) (fun x hx => h2 x (List.mem_cons_of_mem _ hx)) h.2]
    exact key l m hl hm h
  · rintro rfl; rfl
end Go.Sl
