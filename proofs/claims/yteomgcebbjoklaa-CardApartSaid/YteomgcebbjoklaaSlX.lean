/- What an owned slice's value is; bytes of a constant string. -/
import Derived.Test.YteomgcebbjoklaaSlW
namespace Go.Sl
open Go
set_option linter.unusedVariables false
set_option linter.unusedSimpArgs false
universe u
variable {P : Program} {r : Option Nat} {n : Nat} {Q : PostT} {ρ : Env} {ds : List Deferred} {H A R : HP} {t t' t'' T S' e : TypeId} {x y : Operand} {all rest : List Oper} {d d' : Option Nat} {pos pos' : String} {aft aft' : Array Edge} {v v2 : Value} {bb m cap s : Nat} {zc cs : List Value} {k k' : IntKind} {i : Int} {a : Option Addr} {ts : Array TypeId} {l l2 : List Int}
/-- What stands fast of a slice that is owned. -/
def SlP (s : Nat) (v : SV) (cs : List Value) : Prop := cs.length = v.n * s ∧ v.n ≤ v.c ∧ (v.a = none → v.c = 0)
theorem slk_pure {g : Gh} {w : World} {v : SV} (h : St g w (slk s v.v cs * R)) : SlP s v cs := by
  obtain ⟨a, n, c⟩ := v
  rcases slk_cases h with ⟨h1, h2, _⟩ | ⟨b, pre, jk, n', c', h1, h2, h3, h4, _⟩
  · simp only [SV.v, Value.slice.injEq] at h1
    obtain ⟨rfl, rfl, rfl⟩ := h1
    subst h2
    exact ⟨by simp, by simp, fun _ => rfl⟩
  · simp only [SV.v, Value.slice.injEq] at h1
    obtain ⟨rfl, rfl, rfl⟩ := h1
    exact ⟨h2, h3, fun h => by cases h⟩
theorem Ow.slP {v : SV} {L : List Oper} (hp : Pk H (slk s v.v cs) R) (h : SlP s v cs → Ow P r n all L Q ρ ds H) : Ow P r n all L Q ρ ds H := fun g w a hr hd hs => h (slk_pure (by unfold Pk at hp; rw [hp] at hs; exact hs)) g w a hr hd hs
theorem Cw.slP {v : SV} {c : Code} (hp : Pk H (slk s v.v cs) R) (h : SlP s v cs → Cw P r n c Q ρ ds H) : Cw P r n c Q ρ ds H := fun g w a hr hd hs => h (slk_pure (by unfold Pk at hp; rw [hp] at hs; exact hs)) g w a hr hd hs
theorem sbase_sv (v : SV) : sbase v.v = adr v.a := by obtain ⟨a, n, c⟩ := v; cases a <;> rfl
/-- An owned slice is one to read, too. -/
theorem SlP.ro {v : SV} (h : SlP s v cs) (hs0 : 0 < s) : Ro (slk s v.v cs) v.a v.n s cs := ⟨h.1, fun j u hj => by
  have hlt := (List.getElem?_eq_some_iff.1 hj).1
  refine ⟨?_, by rw [← sbase_sv]; exact rd_slk hj⟩
  cases e : v.a with
  | none =>
    obtain ⟨h1, h2, h3⟩ := h
    have := h3 e
    have h0 : v.n = 0 := by omega
    rw [h0] at h1
    omega
  | some ad => rfl⟩
theorem SlP.vw {v : SV} (h : SlP 1 v (l.map vb)) (hb : ∀ c ∈ l, 0 ≤ c ∧ c ≤ 255) : Vw (slk 1 v.v (l.map vb)) v.a v.n v.c l := ⟨h.ro (by omega), h.2.1, h.2.2, hb⟩
/-- A new block of bytes as a slice of its own. -/
theorem Ow.clsl {b nn : Nat} {L : List Oper} (l : List Int) (hp : Pk H (cl b (l.map vb)) R) (hn : l.length = nn) (h : Ow P r n all L Q ρ ds (slk 1 (.slice (some ⟨b, 0, none⟩) nn nn) (l.map vb) * R)) : Ow P r n all L Q ρ ds H :=
  Ow.ent (Ent.trans (Ent.of_eq hp) (Ent.left (slk_mk0 (by rw [List.length_map, hn, Nat.mul_one])))) h
/-- A slice of two that is built, and turned into bytes of a constant string. -/
theorem Ow.bldMark2 {i0 i1 dd : Nat} {x0 x1 : Operand} {v0 v1 : Value} {f : List Value → List Value} [TT : TyU P T (.slice e)] [TE : TyU P e (.int .u8)] [B : TyBS P T m e [i0, i1] f] (hd : dOk n (some dd) = true) (hd' : dOk n d' = true) (h0 : ev ρ x0 = some v0) (h1 : ev ρ x1 = some v1)
    (hb : ∀ w, (Instr.buildSlice T m #[(i0, v0), (i1, v1)]).run P w = .ok (.slice (some ⟨w.heap.size, 0, none⟩) m m) { w with heap := w.heap.push (.cells (f [v0, v1]).toArray e (0, 0)) })
    (h : ∀ b, Ow P r n all rest Q (putE d' (.slice (some ⟨b, 0, none⟩) m m) (putE (some dd) (.slice (some ⟨b, 0, none⟩) m m) ρ)) ds (cl b (f [v0, v1]) * H)) :
    Ow P r n all (⟨some dd, .buildSlice T m #[(i0, x0), (i1, x1)], t, pos, aft, none⟩ :: ⟨d', .convert T T (.tmp dd), t', pos', aft', none⟩ :: rest) Q ρ ds H := by
  refine Ow.value_ex (α := Nat) (f := fun b => .slice (some ⟨b, 0, none⟩) m m) (H' := fun b => pt b (.cells (f [v0, v1]).toArray e (0, 0)) * H) hd (by simp) (fun g w a hr hst => ?_) (fun b => ?_)
  · refine ⟨w.heap.size, _, ?_, hst.alloc (.cells (f [v0, v1]).toArray e (0, 0))⟩
    have := hb w
    simp [execOp, ev_eval hr h0, ev_eval hr h1, this]
  · refine Ow.value_ex (α := Unit) (f := fun _ => .slice (some ⟨b, 0, none⟩) m m) (H' := fun _ => cl b (f [v0, v1]) * H) hd' (by simp) (fun g w a hr hst => ?_) (fun _ => h b)
    have hx : a.eval (.tmp dd) = .slice (some ⟨b, 0, none⟩) m m := ev_eval hr (by simp [ev, putE, lk])
    have hg := hst.get
    refine ⟨(), w.freeze ⟨b, (f [v0, v1]).length, none⟩ 1, ?_, ?_⟩
    · have hsh : w.shape? b = some (e, (f [v0, v1]).length) := by simp [World.shape?, hg]
      simp [execOp, hx, Go.convert, run_under, markStringish, run_shape, hsh]
    · have hlt := hst.lt
      have hb' : (w.freeze ⟨b, (f [v0, v1]).length, none⟩ 1).heap[b]? = some (.cells (f [v0, v1]).toArray e ((f [v0, v1]).length, (f [v0, v1]).length + 1)) := by
        simp [World.freeze, Array.getElem?_modify, hg]
      have hr' : ∀ i, i ≠ b → (w.freeze ⟨b, (f [v0, v1]).length, none⟩ 1).heap[i]? = w.heap[i]? := fun i hi => by
        simp [World.freeze, Array.getElem?_modify, Ne.symm hi]
      refine (hst.put (by simp [World.freeze]) (by simp [World.freeze]) hb' hr').mono (Ent.left (Ent.of_imp fun q hq => ?_))
      unfold cl
      exact ⟨⟨e, ((f [v0, v1]).length, (f [v0, v1]).length + 1)⟩, fun j hj => by simp only; omega, hq⟩
end Go.Sl
