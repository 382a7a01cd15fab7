/- An arena: what Take and Give do to it; what always holds of it. -/
import Derived.Test.YteomgcebbjoklaaCa2
namespace Go.Sl
open Go Go.Proofs
set_option linter.unusedVariables false
set_option linter.unusedSimpArgs false
/-- A class's words, its cells. -/
def wdc (c : Nat) : Nat := 2 * 2 ^ c
def nce (c : Nat) : Nat := 32 / wdc c
theorem cls3 {c : Nat} (h : c < 3) : (c = 0 ∧ wdc c = 2 ∧ nce c = 16) ∨ (c = 1 ∧ wdc c = 4 ∧ nce c = 8) ∨ (c = 2 ∧ wdc c = 8 ∧ nce c = 4) := by
  rcases (by omega : c = 0 ∨ c = 1 ∨ c = 2) with rfl | rfl | rfl <;> decide
theorem wdc_pos (c : Nat) : 0 < wdc c := by unfold wdc; have := Nat.two_pow_pos c; omega
def arRef (p c k : Nat) : Nat := 32 * p + k * wdc c + 1
theorem arRef_lt {p c k : Nat} (hc : c < 3) (hk : k < nce c) : k * wdc c + wdc c ≤ 32 := by
  rcases cls3 hc with ⟨_, h1, h2⟩ | ⟨_, h1, h2⟩ | ⟨_, h1, h2⟩ <;> rw [h1] <;> omega
/-- How many cells of a page are taken. -/
def pcn (S : Nat → Bool) (p : Nat) : Nat := cn S (32 * p + 33) - cn S (32 * p + 1)
theorem cn_rng (S : Nat → Bool) (i : Nat) : ∀ j, cn S i ≤ cn S (i + j) ∧ cn S (i + j) ≤ cn S i + j
  | 0 => by simp
  | j + 1 => by
    have := cn_rng S i j
    have e : cn S (i + (j + 1)) = cn S (i + j) + (S (i + j)).toNat := rfl
    have : (S (i + j)).toNat ≤ 1 := by cases S (i + j) <;> simp
    omega
theorem pcn_le (S : Nat → Bool) (p : Nat) : pcn S p ≤ 32 := by
  have := cn_rng S (32 * p + 1) 32
  unfold pcn; rw [show 32 * p + 1 + 32 = 32 * p + 33 by omega] at this; omega
theorem pcn_put {S : Nat → Bool} {i p : Nat} (h : S i = false) : pcn (upd S i true) p = if 32 * p + 1 ≤ i ∧ i < 32 * p + 33 then pcn S p + 1 else pcn S p := by
  have h1 := cn_upd S i true (32 * p + 33)
  have h2 := cn_upd S i true (32 * p + 1)
  have h3 := cn_rng S (32 * p + 1) 32
  rw [show 32 * p + 1 + 32 = 32 * p + 33 by omega] at h3
  rw [h] at h1 h2
  simp only [Bool.toNat_false, Bool.toNat_true] at h1 h2
  unfold pcn
  split <;> omega
theorem pcn_drop {S : Nat → Bool} {i p : Nat} (h : S i = true) : pcn S p = if 32 * p + 1 ≤ i ∧ i < 32 * p + 33 then pcn (upd S i false) p + 1 else pcn (upd S i false) p := by
  have h1 := cn_upd S i false (32 * p + 33)
  have h2 := cn_upd S i false (32 * p + 1)
  have h3 := cn_rng (upd S i false) (32 * p + 1) 32
  rw [show 32 * p + 1 + 32 = 32 * p + 33 by omega] at h3
  rw [h] at h1 h2
  simp only [Bool.toNat_false, Bool.toNat_true] at h1 h2
  unfold pcn
  split <;> omega
theorem pcn_zero {S : Nat → Bool} {p : Nat} (h : pcn S p = 0) : ∀ o, o < 32 → S (32 * p + 1 + o) = false := by
  intro o ho
  cases hS : S (32 * p + 1 + o) with
  | false => rfl
  | true =>
    have h1 := cn_rng S (32 * p + 1) o
    have h2 := cn_rng S (32 * p + 1 + o + 1) (31 - o)
    have e : cn S (32 * p + 1 + o + 1) = cn S (32 * p + 1 + o) + 1 := by rw [cn, hS]; rfl
    rw [show 32 * p + 1 + o + 1 + (31 - o) = 32 * p + 33 by omega] at h2
    unfold pcn at h; omega
def PgOk (S : Nat → Bool) (p : Nat) (g : Pg) : Prop :=
  (g.1 = -1 ∧ g.2 = 0 ∧ pcn S p = 0) ∨ (∃ c : Nat, c < 3 ∧ g.1 = c ∧ g.2 = pcn S p ∧ 0 < pcn S p ∧ ∀ o, o < 32 → S (32 * p + 1 + o) = true → o % wdc c = 0)
def isFree (g : Pg) : Bool := decide (g.1 < 0)
theorem isFree_n {g : Pg} (h : 0 ≤ g.1) : (isFree g).toNat = 0 := by unfold isFree; rw [decide_eq_false (by omega)]; rfl
theorem isFree_t {g : Pg} (h : g.1 < 0) : (isFree g).toNat = 1 := by unfold isFree; rw [decide_eq_true h]; rfl
structure ArOk (x : Ar) : Prop where
  len : x.pg.length ≤ 64
  wl : x.ws.length = x.pg.length * 32
  z : x.S 0 = false
  sup : Sup (x.pg.length * 32 + 1) x.S
  free : x.free = (x.pg.countP isFree : Nat)
  pgs : ∀ p, p < x.pg.length → PgOk x.S p x.pg[p]!
theorem ar0_ok (n : Nat) (hn : n ≤ 64) : ArOk (ar0 n) where
  len := by simp [ar0]; exact hn
  wl := by simp [ar0]
  z := rfl
  sup := sup0 _
  free := by simp only [ar0]; rw [List.countP_replicate]; simp [isFree]
  pgs p hp := by
    simp only [ar0, List.length_replicate] at hp
    refine .inl ?_
    simp only [ar0]
    rw [getElem!_pos _ _ (by simpa using hp)]
    simp [pcn, cn_zero]
/-- A free cell of a page. -/
def cellF (S : Nat → Bool) (p c : Nat) : Option Nat := (List.range (nce c)).find? fun k => !S (arRef p c k)
def gapP (x : Ar) (c p : Nat) : Option (Nat × Nat) := if x.pg[p]!.1 = (c : Int) ∧ x.pg[p]!.2 ≠ (nce c : Nat) then (cellF x.S p c).map fun k => (p, k) else none
def gapR (x : Ar) (c : Nat) : Option (Nat × Nat) := (List.range x.pg.length).findSome? fun p => gapP x c p
theorem findSome_range {α : Type} (f : Nat → Option α) : ∀ n k v, k < n → f k = some v → (∀ j, j < k → f j = none) → (List.range n).findSome? f = some v
  | 0, _, _, h, _, _ => by omega
  | n + 1, k, v, hk, hv, hn => by
    rw [List.range_succ, List.findSome?_append]
    by_cases h : k < n
    · rw [findSome_range f n k v h hv hn]; rfl
    · have e : k = n := by omega
      subst e
      rw [List.findSome?_eq_none_iff.2 (fun j hj => hn j (List.mem_range.1 hj))]
      simp [hv]
theorem find_range (f : Nat → Bool) : ∀ n k, k < n → f k = true → (∀ j, j < k → f j = false) → (List.range n).find? f = some k
  | 0, _, h, _, _ => by omega
  | n + 1, k, hk, hv, hn => by
    rw [List.range_succ, List.find?_append]
    by_cases h : k < n
    · rw [find_range f n k h hv hn]; rfl
    · have e : k = n := by omega
      subst e
      rw [List.find?_eq_none.2 (fun j hj => by rw [hn j (List.mem_range.1 hj)]; simp)]
      simp [hv]
theorem cellF_none {S : Nat → Bool} {p c : Nat} (h : ∀ k, k < nce c → S (arRef p c k) = true) : cellF S p c = none :=
  List.find?_eq_none.2 fun k hk => by rw [h k (List.mem_range.1 hk)]; simp
theorem cellF_some {S : Nat → Bool} {p c k : Nat} (hk : k < nce c) (hS : S (arRef p c k) = false) (h : ∀ j, j < k → S (arRef p c j) = true) : cellF S p c = some k :=
  find_range _ _ _ hk (by rw [hS]; rfl) fun j hj => by rw [h j hj]; rfl
theorem gapR_some {x : Ar} {c p k : Nat} (hp : p < x.pg.length) (h : gapP x c p = some (p, k)) (hn : ∀ q, q < p → gapP x c q = none) : gapR x c = some (p, k) := findSome_range _ _ _ _ hp h hn
theorem gapR_none {x : Ar} {c : Nat} (hn : ∀ q, q < x.pg.length → gapP x c q = none) : gapR x c = none := List.findSome?_eq_none_iff.2 fun q hq => hn q (List.mem_range.1 hq)
theorem gapR_spec {x : Ar} {c p k : Nat} (h : gapR x c = some (p, k)) : p < x.pg.length ∧ x.pg[p]!.1 = (c : Int) ∧ k < nce c ∧ x.S (arRef p c k) = false := by
  obtain ⟨q, hq, hg⟩ := List.exists_of_findSome?_eq_some h
  unfold gapP at hg
  split at hg
  · rename_i hc
    cases hf : cellF x.S q c with
    | none => rw [hf] at hg; cases hg
    | some m =>
      rw [hf] at hg
      cases hg
      have h1 := List.find?_some hf
      have h2 := List.mem_of_find?_eq_some hf
      exact ⟨List.mem_range.1 hq, hc.1, List.mem_range.1 h2, by simpa using h1⟩
  · cases hg
/-- The words of a cell are 0. -/
def wz (ws : List Int) (i n : Nat) : List Int := ws.take i ++ (List.replicate n 0 ++ ws.drop (i + n))
theorem wz_len {ws : List Int} {i n : Nat} (h : i + n ≤ ws.length) : (wz ws i n).length = ws.length := by simp [wz]; omega
/-- The first free page. -/
def freeP (l : List Pg) : Nat := (l.findIdx isFree)
/-- A page gets a cell of a class. -/
def takeAt (x : Ar) (p c k : Nat) (t : Int) (f : Int) : Ar := ⟨x.pg.set p (c, t), wz x.ws (arRef p c k - 1) (wdc c), upd x.S (arRef p c k) true, f⟩
def takeR (x : Ar) (c : Nat) : Option (Nat × Ar) :=
  match gapR x c with
  | some (p, k) => some (arRef p c k, takeAt x p c k (x.pg[p]!.2 + 1) x.free)
  | none => if 0 < x.free then some (arRef (freeP x.pg) c 0, takeAt x (freeP x.pg) c 0 1 (x.free - 1)) else none
theorem set_at' {α : Type} [Inhabited α] (l : List α) (i j : Nat) (a : α) (hj : j < l.length) : (l.set i a)[j]! = if i = j then a else l[j]! := by
  rw [getElem!_pos (l.set i a) j (by simpa using hj), List.getElem_set, getElem!_pos l j hj]
theorem countP_set {α : Type} [Inhabited α] (f : α → Bool) (l : List α) (i : Nat) (a : α) (hi : i < l.length) : (l.set i a).countP f + (f l[i]!).toNat = l.countP f + (f a).toNat := by
  induction l generalizing i with
  | nil => simp at hi
  | cons b l ih =>
    cases i with
    | zero => simp only [List.set_cons_zero, List.countP_cons, getElem!_pos (b :: l) 0 (show 0 < (b :: l).length by simp), List.getElem_cons_zero]; cases f a <;> cases f b <;> simp
    | succ i =>
      have hi' : i < l.length := by simpa using hi
      have := ih i hi'
      have e : (b :: l)[i + 1]! = l[i]! := by rw [getElem!_pos (b :: l) (i + 1) hi, getElem!_pos l i hi']; rfl
      simp only [List.set_cons_succ, List.countP_cons, e]; omega
theorem takeAt_ok {x : Ar} (h : ArOk x) {p c k : Nat} (hp : p < x.pg.length) (hc : c < 3) (hk : k < nce c) (hS : x.S (arRef p c k) = false) {t f : Int}
    (ht : t = (pcn x.S p + 1 : Nat)) (hf : f + ((isFree x.pg[p]!).toNat : Nat) = x.free) (hcl : ∀ o, o < 32 → x.S (32 * p + 1 + o) = true → o % wdc c = 0) : ArOk (takeAt x p c k t f) where
  len := by simp only [takeAt, List.length_set]; exact h.len
  wl := by
    simp only [takeAt, List.length_set]
    have := arRef_lt (p := p) hc hk
    rw [wz_len]
    · exact h.wl
    · rw [h.wl]; unfold arRef; omega
  z := by simp only [takeAt]; rw [upd_ne _ _ (by unfold arRef; omega)]; exact h.z
  sup := by
    simp only [takeAt, List.length_set]
    have := arRef_lt (p := p) hc hk
    have := wdc_pos c
    exact h.sup.upd (by unfold arRef; omega) true
  free := by
    simp only [takeAt]
    have h1 := countP_set isFree x.pg p ((c : Int), t) hp
    have h2 : (isFree ((c : Int), t)).toNat = 0 := isFree_n (by simp only; omega)
    have := h.free
    omega
  pgs q hq := by
    simp only [takeAt, List.length_set] at hq ⊢
    have hlt := arRef_lt (p := p) hc hk
    have := wdc_pos c
    rw [set_at' _ _ _ _ hq]
    by_cases hpq : p = q
    · subst hpq
      rw [if_pos rfl]
      have e : pcn (upd x.S (arRef p c k) true) p = pcn x.S p + 1 := by rw [pcn_put hS, if_pos (by unfold arRef; omega)]
      refine .inr ⟨c, hc, rfl, by rw [e]; exact ht, by omega, fun o ho hS' => ?_⟩
      by_cases ho' : 32 * p + 1 + o = arRef p c k
      · have : o = k * wdc c := by unfold arRef at ho'; omega
        rw [this]; exact Nat.mul_mod_left _ _
      · rw [upd_ne _ _ (by omega)] at hS'
        exact hcl o ho hS'
    · rw [if_neg hpq]
      have e : pcn (upd x.S (arRef p c k) true) q = pcn x.S q := by rw [pcn_put hS, if_neg (by unfold arRef; omega)]
      rcases h.pgs q hq with h' | ⟨c', h1, h2, h3, h4, h5⟩
      · exact .inl (by rw [e]; exact h')
      · refine .inr ⟨c', h1, h2, by rw [e]; exact h3, by rw [e]; exact h4, fun o ho hS' => h5 o ho ?_⟩
        rw [upd_ne _ _ (by unfold arRef; omega)] at hS'
        exact hS'
theorem freeP_spec {x : Ar} (h : ArOk x) (hf : 0 < x.free) : freeP x.pg < x.pg.length ∧ x.pg[freeP x.pg]!.1 < 0 := by
  have h1 := h.free
  have h2 : 0 < x.pg.countP isFree := by omega
  obtain ⟨g, hg, hi⟩ := List.countP_pos_iff.1 h2
  have h3 : x.pg.findIdx isFree < x.pg.length := List.findIdx_lt_length_of_exists ⟨g, hg, hi⟩
  refine ⟨h3, ?_⟩
  have := List.findIdx_getElem (w := h3)
  unfold freeP
  rw [getElem!_pos x.pg _ h3]
  simpa [isFree] using this
theorem freeP_lt {l : List Pg} {p : Nat} (hp : p < freeP l) (hl : p < l.length) : 0 ≤ l[p]!.1 := by
  have := List.not_of_lt_findIdx hp
  rw [getElem!_pos l p hl]
  simpa [isFree] using this
theorem freeP_eq {l : List Pg} {p : Nat} (hp : p < l.length) (h : l[p]!.1 < 0) (hn : ∀ q, q < p → 0 ≤ l[q]!.1) : freeP l = p := by
  have h1 : ¬ p < freeP l := fun h' => by have := freeP_lt h' hp; omega
  have h2 : freeP l ≤ p := by omega
  have h3 : ¬ freeP l < p := fun h' => by
    have h4 := hn _ h'
    have h5 : l.findIdx isFree < l.length := by unfold freeP at h'; omega
    have := List.findIdx_getElem (w := h5)
    unfold freeP at h4
    rw [getElem!_pos l _ h5] at h4
    simp [isFree] at this
    omega
  omega
theorem takeR_ok {x y : Ar} (h : ArOk x) {c r : Nat} (hc : c < 3) (ht : takeR x c = some (r, y)) : ArOk y ∧ y.pg.length = x.pg.length ∧ 1 ≤ r ∧ r < x.pg.length * 32 + 1 ∧ x.S r = false ∧ y.S = upd x.S r true := by
  unfold takeR at ht
  have hw := wdc_pos c
  split at ht
  · rename_i p k hg
    cases ht
    obtain ⟨hp, hcl, hk, hS⟩ := gapR_spec hg
    have hlt := arRef_lt (p := p) hc hk
    refine ⟨?_, by simp [takeAt], by unfold arRef; omega, by unfold arRef; omega, hS, rfl⟩
    rcases h.pgs p hp with h' | ⟨c', h1, h2, h3, h4, h5⟩
    · omega
    · have e : c' = c := by omega
      subst e
      exact takeAt_ok h hp hc hk hS (by omega) (by rw [isFree_n (by omega)]; omega) h5
  · split at ht
    · rename_i hf
      cases ht
      obtain ⟨hp, hcl⟩ := freeP_spec h hf
      have hk : 0 < nce c := by rcases cls3 hc with ⟨_, h1, h2⟩ | ⟨_, h1, h2⟩ | ⟨_, h1, h2⟩ <;> omega
      have hlt := arRef_lt (p := freeP x.pg) hc hk
      rcases h.pgs _ hp with ⟨h1, h2, h3⟩ | ⟨c', h1, h2, h3, h4, h5⟩
      · have hz := pcn_zero h3
        have hS : x.S (arRef (freeP x.pg) c 0) = false := by have := hz 0 (by omega); unfold arRef; rw [Nat.zero_mul]; exact this
        refine ⟨takeAt_ok h hp hc hk hS (by omega) (by rw [isFree_t hcl]; omega) (fun o ho hS' => by rw [hz o ho] at hS'; cases hS'), by simp [takeAt], by unfold arRef; omega, by unfold arRef; omega, hS, rfl⟩
      · omega
    · cases ht
/-- A cell is given back. -/
def giveR (x : Ar) (r : Nat) : Ar :=
  let p := (r - 1) / 32
  if x.pg[p]!.2 = 1 then ⟨x.pg.set p (-1, 0), x.ws, upd x.S r false, x.free + 1⟩ else ⟨x.pg.set p (x.pg[p]!.1, x.pg[p]!.2 - 1), x.ws, upd x.S r false, x.free⟩
theorem giveR_ok {x : Ar} (h : ArOk x) {r : Nat} (hS : x.S r = true) : ArOk (giveR x r) ∧ (giveR x r).pg.length = x.pg.length ∧ 1 ≤ r ∧ r < x.pg.length * 32 + 1 := by
  have hr0 : 1 ≤ r := by
    cases r with
    | zero => rw [h.z] at hS; cases hS
    | succ r => omega
  have hr1 : r < x.pg.length * 32 + 1 := by
    by_cases hlt : r < x.pg.length * 32 + 1
    · exact hlt
    · rw [h.sup r (by omega)] at hS; cases hS
  obtain ⟨p, hp⟩ : ∃ p, (r - 1) / 32 = p := ⟨_, rfl⟩
  have hpl : p < x.pg.length := by omega
  have hsup : Sup (x.pg.length * 32 + 1) (upd x.S r false) := h.sup.upd hr1 false
  have hz : upd x.S r false 0 = false := by rw [upd_ne _ _ (by omega)]; exact h.z
  have hpc := pcn_drop (p := p) hS
  rw [if_pos (by omega)] at hpc
  have hoth : ∀ q, q < x.pg.length → p ≠ q → PgOk (upd x.S r false) q x.pg[q]! := fun q hq hpq => by
    have e : pcn (upd x.S r false) q = pcn x.S q := by have := pcn_drop (p := q) hS; rw [if_neg (by omega)] at this; exact this.symm
    rcases h.pgs q hq with h' | ⟨c', h1, h2, h3, h4, h5⟩
    · exact .inl (by rw [e]; exact h')
    · refine .inr ⟨c', h1, h2, by rw [e]; exact h3, by rw [e]; exact h4, fun o ho hS' => h5 o ho ?_⟩
      rw [upd_ne _ _ (by omega)] at hS'
      exact hS'
  have hfr := h.free
  obtain ⟨c, hc3, hc, ht, hpos, hcl⟩ : ∃ c : Nat, c < 3 ∧ x.pg[p]!.1 = c ∧ x.pg[p]!.2 = pcn x.S p ∧ 0 < pcn x.S p ∧ ∀ o, o < 32 → x.S (32 * p + 1 + o) = true → o % wdc c = 0 := by
    rcases h.pgs p hpl with ⟨_, _, h'⟩ | h'
    · omega
    · exact h'
  have hif : (isFree x.pg[p]!).toNat = 0 := isFree_n (by omega)
  unfold giveR
  simp only [hp]
  split
  · rename_i h1
    have hcp := countP_set isFree x.pg p ((-1 : Int), (0 : Int)) hpl
    have h2 : (isFree ((-1 : Int), (0 : Int))).toNat = 1 := by decide
    refine ⟨⟨by simp only [List.length_set]; exact h.len, by simp only [List.length_set]; exact h.wl, hz, by simp only [List.length_set]; exact hsup, by simp only; omega, fun q hq => ?_⟩, by simp, hr0, hr1⟩
    simp only [List.length_set] at hq ⊢
    rw [set_at' _ _ _ _ hq]
    by_cases hpq : p = q
    · subst hpq
      rw [if_pos rfl]
      exact .inl ⟨rfl, rfl, by omega⟩
    · rw [if_neg hpq]; exact hoth q hq hpq
  · rename_i h1
    have hcp := countP_set isFree x.pg p (x.pg[p]!.1, x.pg[p]!.2 - 1) hpl
    have h2 : (isFree (x.pg[p]!.1, x.pg[p]!.2 - 1)).toNat = 0 := isFree_n (by simp only; omega)
    refine ⟨⟨by simp only [List.length_set]; exact h.len, by simp only [List.length_set]; exact h.wl, hz, by simp only [List.length_set]; exact hsup, by simp only; omega, fun q hq => ?_⟩, by simp, hr0, hr1⟩
    simp only [List.length_set] at hq ⊢
    rw [set_at' _ _ _ _ hq]
    by_cases hpq : p = q
    · subst hpq
      rw [if_pos rfl]
      refine .inr ⟨c, hc3, hc, by simp only; omega, by omega, fun o ho hS' => hcl o ho ?_⟩
      by_cases ho' : r = 32 * p + 1 + o
      · rw [ho']  at hS; exact hS
      · rw [upd_ne _ _ (by omega)] at hS'; exact hS'
    · rw [if_neg hpq]; exact hoth q hq hpq
end Go.Sl
