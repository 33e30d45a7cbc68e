/- Rows of cells that are read, and rows that a call owns: laws over any program. -/
import Derived.Test.YtjjkgoekcpgilaaRows
import Derived.WalkKit
import Derived.BigQuiet
import Derived.Deep.QuietTactic
import Derived.Deep.DeepFit
import Derived.Deep.DeepMust
import Derived.Deep.RegionHeld3
import Derived.Deep.RegionLaw
import Derived.Deep.RegionWith
import Derived.Deep.Cut
import Derived.Deep.DeepCutAuto
namespace Go.Proofs.Ytjjkgoekcpgilaa
open Go.RowKit

theorem hid {p : Prop} (h : p) : Hid p := h

/-- A slice that is read: nil, or n elements of sz cells each that hold these values. -/
def RowAt (w : World) (sz : Nat) (v : Value) (n : Nat) (xs : List Value) : Prop :=
  xs.length = n * sz ∧
  ((v = .slice none 0 0 ∧ n = 0) ∨
   ∃ b off cap, v = .slice (some ⟨b, off, none⟩) n cap ∧ n ≤ cap ∧ cap ≤ maxLen ∧ b < w.heap.size ∧ ∀ j, j < xs.length → w.cell? ⟨b, off + j, none⟩ = xs[j]?)

theorem RowAt.kept {w w' : World} {sz n : Nat} {v : Value} {xs : List Value} (h : RowAt w sz v n xs) (hs : w.heap.size ≤ w'.heap.size)
    (hb : ∀ b, v.ownBlock = some b → b < w.heap.size → w'.heap[b]? = w.heap[b]?) : RowAt w' sz v n xs := by
  refine ⟨h.1, ?_⟩
  rcases h.2 with h2 | ⟨b, off, cap, rfl, h3, h5, h4, h6⟩
  · exact .inl h2
  · refine .inr ⟨b, off, cap, rfl, h3, h5, by omega, fun j hj => ?_⟩
    rw [World.cell?_of_block (w := w) (hb b rfl h4)]
    exact h6 j hj

theorem RowAt.lt {w : World} {sz n : Nat} {v : Value} {xs : List Value} (h : RowAt w sz v n xs) : ∀ k, v.ownBlock = some k → k < w.heap.size := by
  intro k hk
  rcases h.2 with ⟨rfl, _⟩ | ⟨b, off, cap, rfl, h3, h5, h4, h6⟩
  · simp [Value.ownBlock] at hk
  · simp [Value.ownBlock] at hk; omega

theorem RowAt.below {w w' : World} {sz n : Nat} {v : Value} {xs : List Value} (h : RowAt w sz v n xs) (hb : Below w.heap.size w w') : RowAt w' sz v n xs :=
  h.kept hb.size fun b _ hlt => hb.block b hlt

theorem RowAt.alloc {w : World} {sz n : Nat} {v : Value} {xs : List Value} (h : RowAt w sz v n xs) (o : Obj) : RowAt (w.alloc o) sz v n xs :=
  h.below ((Below.refl _ _).alloc (Nat.le_refl _) o)

theorem RowAt.drew {w : World} {sz n : Nat} {v : Value} {xs : List Value} (h : RowAt w sz v n xs) : RowAt w.drew sz v n xs := h

theorem RowAt.grown {w w' : World} {row : Option Nat} {sz n : Nat} {v : Value} {xs : List Value} (h : RowAt w sz v n xs) (hg : w.grownBy w' row) (hne : v.ownBlock = none ∨ v.ownBlock ≠ row) : RowAt w' sz v n xs :=
  h.kept hg.size fun b hb hlt => hg.block b hlt (by rw [← hb]; rcases hne with e | e; · rw [e] at hb; cases hb
                                                    · exact e)

theorem owned_row {w : World} {base : Nat} {e : TypeId} {sz n : Nat} {v : Value} {xs : List Value} (h : w.ownsRow base e sz v n xs) : RowAt w sz v n xs := by
  have hcells := fun (g : Nat) (hg : v.ownBlock = some g) => h.cells hg
  refine ⟨h.1, ?_⟩
  rcases h.2 with h2 | ⟨g, cap, cur, rfl, hb, hg, hnc, hcm, hcs, htake⟩
  · exact .inl h2
  · refine .inr ⟨g, 0, cap, rfl, hnc, hcm, (Array.getElem?_eq_some_iff.1 hg).1, fun j hj => ?_⟩
    have := hcells g rfl j xs[j] (by rw [List.getElem?_eq_getElem hj])
    rw [List.getElem?_eq_getElem hj, ← this]
    congr 1
    unfold Addr.add
    split <;> simp_all

theorem lt_some {w : World} {e : TypeId} {base sz n : Nat} {v : Value} {xs : List Value} (h : w.ownsRow base e sz v n xs) : ∀ k, v.ownBlock = some k → k < w.heap.size := fun k hk => (h.lt k hk).2

/-- What an append hands back lies where its row lay, or in the block that comes next. -/
def Fresh (w : World) (v v' : Value) : Prop := v'.ownBlock = v.ownBlock ∨ ∀ k, v'.ownBlock = some k → w.heap.size ≤ k

theorem Fresh.refl (w : World) (v : Value) : Fresh w v v := .inl rfl
theorem Fresh.trans {w w1 : World} {a b c : Value} (h : Fresh w a b) (h1 : Fresh w1 b c) (hs : w.heap.size ≤ w1.heap.size) : Fresh w a c := by
  rcases h1 with e | h1
  · rcases h with e' | h
    · exact .inl (e.trans e')
    · exact .inr fun k hk => h k (e ▸ hk)
  · exact .inr fun k hk => Nat.le_trans hs (h1 k hk)
theorem Fresh.of_le {w w1 : World} {a b : Value} (h : Fresh w1 a b) (hs : w.heap.size ≤ w1.heap.size) : Fresh w a b := by
  rcases h with h | h
  · exact .inl h
  · exact .inr fun k hk => Nat.le_trans hs (h k hk)

theorem grown_trans {w w1 w2 : World} {v v1 : Value} (h : w.grownBy w1 v.ownBlock) (h1 : w1.grownBy w2 v1.ownBlock) (hf : Fresh w v v1) : w.grownBy w2 v.ownBlock := by
  refine ⟨h1.os.trans h.os, h1.tape.trans h.tape, h1.output.trans h.output, Nat.le_trans h.size h1.size, fun k hk hne => ?_⟩
  rw [h1.block k (Nat.lt_of_lt_of_le hk h.size) ?_, h.block k hk hne]
  intro e
  rcases hf with e' | hf
  · exact hne (e.trans e')
  · have := hf k e.symm; omega

theorem grown_of_none {w w1 : World} (h : w.grownBy w1 none) (row : Option Nat) : w.grownBy w1 row :=
  ⟨h.os, h.tape, h.output, h.size, fun k hk _ => h.block k hk (by simp)⟩
theorem grown_none_trans {w w1 w2 : World} {row : Option Nat} (h : w.grownBy w1 none) (h1 : w1.grownBy w2 row) : w.grownBy w2 row :=
  ⟨h1.os.trans h.os, h1.tape.trans h.tape, h1.output.trans h.output, Nat.le_trans h.size h1.size, fun k hk hne => (h1.block k (Nat.lt_of_lt_of_le hk h.size) hne).trans (h.block k hk (by simp))⟩
theorem grown_then_none {w w1 w2 : World} {row : Option Nat} (h : w.grownBy w1 row) (h1 : w1.grownBy w2 none) : w.grownBy w2 row :=
  ⟨h1.os.trans h.os, h1.tape.trans h.tape, h1.output.trans h.output, Nat.le_trans h.size h1.size, fun k hk hne => (h1.block k (Nat.lt_of_lt_of_le hk h.size) (by simp)).trans (h.block k hk hne)⟩
theorem grown_of_below {w w1 : World} (h : Below w.heap.size w w1) : w.grownBy w1 none := ⟨h.os, h.tape, h.output, h.size, fun k hk _ => h.block k hk⟩
theorem below_of_grown {w w1 : World} (h : w.grownBy w1 none) : Below w.heap.size w w1 := ⟨h.os, h.tape, h.output, h.size, fun k hk => h.block k hk (by simp)⟩
theorem grown_fresh {w w1 w2 : World} {row row' : Option Nat} (h : w.grownBy w1 row) (h1 : w1.grownBy w2 row') (hf : ∀ k, row' = some k → k < w.heap.size → row = some k) : w.grownBy w2 row := by
  refine ⟨h1.os.trans h.os, h1.tape.trans h.tape, h1.output.trans h.output, Nat.le_trans h.size h1.size, fun k hk hne => ?_⟩
  rw [h1.block k (Nat.lt_of_lt_of_le hk h.size) ?_, h.block k hk hne]
  intro e
  exact hne (hf k e.symm hk).symm

section
variable {P : Program} (w : World)

theorem run_append_row (t ty e : TypeId) (i : TypeInfo) (z : Value) (size bytes : Nat) (ht : P.underlying t = some (.slice e)) (hi : P.info? e = some i) (hz : i.zero = some z)
    (hsize : i.size = size) (hby : i.bytes = bytes) (hzs : z.cells.size = size) (hsz : 0 < size)
    (v : Value) (n : Nat) (xs : List Value) (hown : w.ownsRow 0 e size v n xs)
    (src : Value) (m : Nat) (news : List Value) (hsrc : RowAt w size src m news) (h1 : ∀ u ∈ news, u.oneCell' = true)
    (h63 : n + m ≤ maxLen) (hbytes : (n + m) * bytes ≤ 140737488355328) :
    ∃ v' w', (Builtin.append_ #[t, t] ty #[v, src]).run P w = .ok v' w' ∧ w'.ownsRow 0 e size v' (n + m) (xs ++ news) ∧ w.grownBy w' v.ownBlock ∧ Fresh w v v' := by
  rcases hsrc.2 with ⟨rfl, rfl⟩ | ⟨b, off, c, rfl, hmc, _, hb, hcells⟩
  · have hn : news = [] := List.eq_nil_of_length_eq_zero (by simpa using hsrc.1)
    subst hn
    exact ⟨v, w, run_append_owned_none (P := P) w 0 t ty e i size ht hi v n xs hown, by simpa using hown, World.grownBy.refl w _, .inl rfl⟩
  · have hnews : ∀ j u, news[j]? = some u → w.cell? ((⟨b, off, none⟩ : Addr).add j) = some u := by
      intro j u hj
      have hlt := (List.getElem?_eq_some_iff.1 hj).1
      have := hcells j hlt
      rw [hj] at this
      rw [← this]
      congr 1
      unfold Addr.add
      split <;> simp_all
    obtain ⟨v', w', hr, h2, h3, h4⟩ := run_append_own (P := P) w 0 t ty e i z size bytes ht hi hz hsize hby hzs hsz v n xs hown ⟨b, off, none⟩ m c news hsrc.1 hnews h1 h63 hbytes (Nat.zero_le _)
    refine ⟨v', w', hr, h2, h3, ?_⟩
    subst hsize
    subst hby
    have hsmall : n + m ≤ 9223372036854775807 := by simp only [maxLen] at h63; omega
    rcases hown.2 with ⟨rfl, rfl⟩ | ⟨g, cap, cur, rfl, hbg, hg, hnc, hcm, hcs, htake⟩
    · by_cases hm : m = 0
      · have : v' = .slice none 0 0 := h4.2 ⟨rfl, hm⟩
        subst this
        exact .inl rfl
      · have hr2 := run_append_nil (P := P) w t ty e i z ht hi hz ⟨b, off, none⟩ m c news hsrc.1 hnews (by omega) (by omega) (by have hb := hbytes; simp only [Nat.zero_add] at hb; omega)
        rw [hr2] at hr
        injection hr with e1 e2
        subst e1
        exact .inr fun k hk => by simp [Value.ownBlock] at hk; omega
    · by_cases hroom : n + m ≤ cap
      · have hfit : n * i.size + news.length ≤ cur.size := by rw [hsrc.1, hcs, ← Nat.add_mul]; exact Nat.mul_le_mul_right _ hroom
        have hr2 := run_append_room (P := P) w t ty e i ht hi g n cap cur hg ⟨b, off, none⟩ m c news hsrc.1 hnews h1 hroom hfit
        rw [hr2] at hr
        injection hr with e1 e2
        subst e1
        exact .inl rfl
      · have holds : ∀ j u, xs[j]? = some u → w.cell? ((⟨g, 0, none⟩ : Addr).add j) = some u := hown.cells (g := g) rfl
        have hr2 := run_append_grow (P := P) w t ty e i z ht hi hz ⟨g, 0, none⟩ n cap xs hown.1 holds ⟨b, off, none⟩ m c news hsrc.1 hnews (by omega) (by omega) (growslice_fits (by omega) hbytes)
        rw [hr2] at hr
        injection hr with e1 e2
        subst e1
        exact .inr fun k hk => by simp [Value.ownBlock] at hk; omega

theorem wpList_append_row {ops : Array Oper} {rest : List Oper} {o : Oper} {a : Act} {Q : Exit → Act → World → Prop} (hgd : o.guard = none) (s x : Operand) (t : TypeId)
    (ho : o.op = .call { callee := .builtin .append, args := #[s, x], argTypes := #[t, t] })
    (e : TypeId) (i : TypeInfo) (z : Value) (size bytes : Nat) (ht : P.underlying t = some (.slice e)) (hi : P.info? e = some i) (hz : i.zero = some z)
    (hsize : i.size = size) (hby : i.bytes = bytes) (hzs : z.cells.size = size) (hsz : 0 < size)
    (v : Value) (n : Nat) (xs : List Value) (hs : a.eval s = v) (hown : w.ownsRow 0 e size v n xs)
    (src : Value) (m : Nat) (news : List Value) (hx : a.eval x = src) (hsrc : RowAt w size src m news) (h1 : ∀ u ∈ news, u.oneCell' = true)
    (h63 : n + m ≤ maxLen) (hbytes : (n + m) * bytes ≤ 140737488355328)
    (h : ∀ v' w', w'.ownsRow 0 e size v' (n + m) (xs ++ news) → w.grownBy w' v.ownBlock → Fresh w v v' → wpList P ops Q rest (a.put o.dst v') w') : wpList P ops Q (o :: rest) a w := by
  refine wpList_plain hgd fun _ hK => ?_
  obtain ⟨v', w', hr, h2, h3, h4⟩ := run_append_row (P := P) w t o.type e i z size bytes ht hi hz hsize hby hzs hsz v n xs hown src m news hsrc h1 h63 hbytes
  unfold Oper.wp execOp
  simp only [ho, resolve, invoke, builtin, Sem.run_bind, Sem.run_pure, Result.andThen_ok, List.map_toArray, List.map_cons, List.map_nil, hs, hx, hr]
  exact hK _ _ (h v' w' h2 h3 h4)
end

/-- A new block, marked behind its end, read as a row. -/
theorem row_marked (w : World) (cs : Array Value) (e : TypeId) (fz : Nat × Nat) (n : Nat) (hn : cs.size = n) (hm : n ≤ maxLen) : RowAt (w.alloc (.cells cs e fz)) 1 (.slice (some ⟨w.heap.size, 0, none⟩) n n) n cs.toList := by
  refine ⟨by simpa using hn, .inr ⟨w.heap.size, 0, n, rfl, Nat.le_refl _, hm, by simp, fun j hj => ?_⟩⟩
  have : (w.alloc (.cells cs e fz)).heap[w.heap.size]? = some (.cells cs e fz) := heap_alloc_new w _
  unfold World.cell?
  simp only [this]
  simp

/-- A new block, written out, read as a row. -/
theorem row_new (w : World) (cs : Array Value) (e : TypeId) (sz n : Nat) (hn : cs.size = n * sz) (hm : n ≤ maxLen) : RowAt (w.alloc (.cells cs e)) sz (.slice (some ⟨w.heap.size, 0, none⟩) n n) n cs.toList :=
  owned_row (World.ownsRow_lit (base := 0) w cs n (Nat.zero_le _) hm hn)

theorem row_new_at (w : World) (cs : Array Value) (e : TypeId) (sz n g : Nat) (hg : w.heap.size = g) (hn : cs.size = n * sz) (hm : n ≤ maxLen) : RowAt (w.alloc (.cells cs e)) sz (.slice (some ⟨g, 0, none⟩) n n) n cs.toList := by
  subst hg; exact row_new w cs e sz n hn hm

theorem row_one (w : World) (u : Value) (e : TypeId) : RowAt (w.alloc (.cells #[u] e)) 1 (.slice (some ⟨w.heap.size, 0, none⟩) 1 1) 1 [u] :=
  row_new w #[u] e 1 1 rfl (by unfold maxLen; omega)
theorem row_one_at (w : World) (u : Value) (e : TypeId) (g : Nat) (hg : w.heap.size = g) : RowAt (w.alloc (.cells #[u] e)) 1 (.slice (some ⟨g, 0, none⟩) 1 1) 1 [u] := by
  subst hg; exact row_one w u e

/-- An append that must grow, onto a row that is only read. -/
theorem wpList_append_new {P : Program} (w : World) {ops : Array Oper} {rest : List Oper} {o : Oper} {a : Act} {Q : Exit → Act → World → Prop} (hgd : o.guard = none) (s x : Operand) (t : TypeId)
    (ho : o.op = .call { callee := .builtin .append, args := #[s, x], argTypes := #[t, t] })
    (e : TypeId) (i : TypeInfo) (z : Value) (size bytes : Nat) (ht : P.underlying t = some (.slice e)) (hi : P.info? e = some i) (hz : i.zero = some z)
    (hsize : i.size = size) (hby : i.bytes = bytes) (hzs : z.cells.size = size) (hsz : 0 < size)
    (p : Option Addr) (cap n : Nat) (olds : List Value) (hs : a.eval s = .slice p n cap) (hold : RowAt w size (.slice p n cap) n olds)
    (src : Value) (m : Nat) (news : List Value) (hx : a.eval x = src) (hsrc : RowAt w size src m news) (h1 : ∀ u ∈ news, u.oneCell' = true)
    (hfull : cap < n + m) (h63 : n + m ≤ maxLen) (hbytes : (n + m) * bytes ≤ 140737488355328)
    (h : ∀ v' w', w'.ownsRow w.heap.size e size v' (n + m) (olds ++ news) → w.grownBy w' none → wpList P ops Q rest (a.put o.dst v') w') : wpList P ops Q (o :: rest) a w := by
  have hcell : ∀ {b off : Nat} {l : List Value}, (∀ j, j < l.length → w.cell? ⟨b, off + j, none⟩ = l[j]?) → ∀ j u, l[j]? = some u → w.cell? ((⟨b, off, none⟩ : Addr).add j) = some u := by
    intro b off l hh j u hj
    have hlt := (List.getElem?_eq_some_iff.1 hj).1
    rw [Addr.add_lit, hh j hlt, hj]
  rcases hold.2 with ⟨e1, rfl⟩ | ⟨b, off, c, e1, h3, h5, h4, h6⟩
  · injection e1 with e1 e2 e3
    subst e1; subst e3
    rcases hsrc.2 with ⟨rfl, rfl⟩ | ⟨b', off', c', rfl, h3', h5', h4', h6'⟩
    · omega
    · exact wpList_append_grows w hgd s x t ho e i z size bytes ht hi hz hsize hby hzs hsz none 0 0 olds hs (fun _ => ⟨rfl, rfl⟩) hold.1 (fun _ hh => by cases hh) ⟨b', off', none⟩ m c' news hx hsrc.1 (hcell h6') h1 hfull h63 hbytes h
  · injection e1 with e1 e2 e3
    subst e1; subst e3
    rcases hsrc.2 with ⟨rfl, rfl⟩ | ⟨b', off', c', rfl, h3', h5', h4', h6'⟩
    · omega
    · exact wpList_append_grows w hgd s x t ho e i z size bytes ht hi hz hsize hby hzs hsz _ n cap olds hs (fun hh => by cases hh) hold.1 (fun b2 hh => by injection hh with hh; subst hh; exact hcell h6) ⟨b', off', none⟩ m c' news hx hsrc.1 (hcell h6') h1 hfull h63 hbytes h

/-- A read row as a slice value whose address is known where something lies there. -/
theorem RowAt.form {w : World} {sz n : Nat} {v : Value} {xs : List Value} (h : RowAt w sz v n xs) :
    ∃ p cap, v = .slice p n cap ∧ n ≤ cap ∧ cap ≤ maxLen ∧ ∀ k, k < xs.length → ∃ b off, p = some ⟨b, off, none⟩ ∧ b < w.heap.size ∧ w.cell? ⟨b, off + k, none⟩ = xs[k]? := by
  rcases h.2 with ⟨rfl, rfl⟩ | ⟨b, off, cap, rfl, h3, h5, h4, h6⟩
  · refine ⟨none, 0, rfl, Nat.le_refl _, Nat.zero_le _, fun k hk => ?_⟩
    have := h.1
    omega
  · exact ⟨_, cap, rfl, h3, h5, fun k hk => ⟨b, off, rfl, h4, h6 k hk⟩⟩

theorem bcell {W w1 : World} (hb : Below W.heap.size W w1) : (∀ b o, b < W.heap.size → w1.cell? ⟨b, o, none⟩ = W.cell? ⟨b, o, none⟩) ∧ (∀ b o, b < W.heap.size → w1.frozen? ⟨b, o, none⟩ = W.frozen? ⟨b, o, none⟩) :=
  ⟨fun b o h => hb.cell (p := ⟨b, o, none⟩) h, fun b o h => hb.frozen (p := ⟨b, o, none⟩) h⟩

/-- A cell of a box that a call made first, behind whatever it made since. -/
theorem box_cell {w w' : World} {cs : Array Value} {e : TypeId} {fz : Nat × Nat} (hb : Below (w.heap.size + 1) (w.alloc (.cells cs e fz)) w') (j : Nat) (v : Value) (h : cs[j]? = some v) : w'.cell? ⟨w.heap.size, j, none⟩ = some v := by
  rw [hb.cell (p := ⟨w.heap.size, j, none⟩) (by simp)]
  have : (w.alloc (.cells cs e fz)).heap[w.heap.size]? = some (.cells cs e fz) := heap_alloc_new w _
  unfold World.cell?
  simp only [this]
  simpa using h

theorem below_old {B : Nat} {w w' : World} {o : Obj} (hb : Below B (w.alloc o) w') (hB : w.heap.size ≤ B) : Below w.heap.size w w' :=
  ((Below.refl _ _).alloc (Nat.le_refl _) o).trans (hb.mono hB)

theorem drewN_below (w : World) (n : Nat) : Below w.heap.size w (w.drewN n) := by
  induction n with
  | zero => exact Below.refl _ _
  | succ n ih => exact ih.drew

theorem own_form {w : World} {base : Nat} {e : TypeId} {size : Nat} {v : Value} {n : Nat} {xs : List Value} (h : w.ownsRow base e size v n xs) : ∃ p c, v = .slice p n c := by
  rcases h.2 with ⟨rfl, rfl⟩ | ⟨g, cap, cur, rfl, _⟩
  · exact ⟨none, 0, rfl⟩
  · exact ⟨_, _, rfl⟩

theorem own_zero {w : World} {base : Nat} {e : TypeId} {size : Nat} {v : Value} {n : Nat} {xs : List Value} (h : w.ownsRow base e size v n xs) : w.ownsRow 0 e size v n xs := by
  refine ⟨h.1, ?_⟩
  rcases h.2 with h | ⟨g, cap, cur, e1, _, e2⟩
  · exact .inl h
  · exact .inr ⟨g, cap, cur, e1, Nat.zero_le _, e2⟩

/-- An append as one step of a region that draws its order. -/
theorem step_append_row {P : Program} {ops : Array Oper} {o : Oper} {a : Act} {w : World} {K : Act → World → Prop} {Q : Exit → Act → World → Prop} {E : Prop} (hgd : o.guard = none) (s x : Operand) (t : TypeId)
    (ho : o.op = .call { callee := .builtin .append, args := #[s, x], argTypes := #[t, t] })
    (e : TypeId) (i : TypeInfo) (z : Value) (size bytes : Nat) (ht : P.underlying t = some (.slice e)) (hi : P.info? e = some i) (hz : i.zero = some z)
    (hsize : i.size = size) (hby : i.bytes = bytes) (hzs : z.cells.size = size) (hsz : 0 < size)
    (v : Value) (n : Nat) (xs : List Value) (hs : a.eval s = v) (hown : w.ownsRow 0 e size v n xs)
    (src : Value) (m : Nat) (news : List Value) (hx : a.eval x = src) (hsrc : RowAt w size src m news) (h1 : ∀ u ∈ news, u.oneCell' = true)
    (h63 : n + m ≤ maxLen) (hbytes : (n + m) * bytes ≤ 140737488355328)
    (h : ∀ p c w', w'.ownsRow 0 e size (.slice p (n + m) c) (n + m) (xs ++ news) → w.grownBy w' v.ownBlock → Fresh w v (.slice p (n + m) c) → K (a.put o.dst (.slice p (n + m) c)) w') :
    if Region.wanted o (yielded ops a.tmps) = true then Oper.wp P o a w K Q else E := by
  have hw : Region.wanted o (yielded ops a.tmps) = true := by simp [Region.wanted, hgd]
  rw [if_pos hw]
  obtain ⟨v', w', hr, h2, h3, h4⟩ := run_append_row (P := P) w t o.type e i z size bytes ht hi hz hsize hby hzs hsz v n xs hown src m news hsrc h1 h63 hbytes
  obtain ⟨p, c, rfl⟩ := own_form h2
  unfold Oper.wp execOp
  simp only [ho, resolve, invoke, builtin, Sem.run_bind, Sem.run_pure, Result.andThen_ok, List.map_toArray, List.map_cons, List.map_nil, hs, hx, hr]
  exact h p c w' h2 h3 h4

theorem one_int (k : IntKind) (n : Int) : ∀ u ∈ [Value.int k n], u.oneCell' = true := by intro u hu; simp at hu; subst hu; rfl

/-- A block known whole. -/
def Blk (w : World) (b : Nat) (cs : Array Value) (e : TypeId) : Prop := w.heap[b]? = some (.cells cs e (0, 0))

theorem Blk.cell {w : World} {b : Nat} {cs : Array Value} {e : TypeId} (h : Blk w b cs e) (j : Nat) (v : Value) (hj : cs[j]? = some v) : w.cell? ⟨b, j, none⟩ = some v := by
  rw [cell_of_row w b j cs e (0, 0) h]; exact hj
theorem Blk.free {w : World} {b : Nat} {cs : Array Value} {e : TypeId} (h : Blk w b cs e) (j : Nat) : w.frozen? ⟨b, j, none⟩ = false := by
  unfold Blk at h
  simp [World.frozen?, h]
theorem Blk.lt {w : World} {b : Nat} {cs : Array Value} {e : TypeId} (h : Blk w b cs e) : b < w.heap.size := lt_of_block h
theorem Blk.new (w : World) (cs : Array Value) (e : TypeId) : Blk (w.alloc (.cells cs e)) w.heap.size cs e := heap_alloc_new w _
theorem Blk.alloc {w : World} {b : Nat} {cs : Array Value} {e : TypeId} (h : Blk w b cs e) (o : Obj) : Blk (w.alloc o) b cs e := by
  exact (Below.heap_alloc w o b h.lt).trans h
theorem Blk.grown {w w' : World} {b : Nat} {cs : Array Value} {e : TypeId} {row : Option Nat} (h : Blk w b cs e) (hg : w.grownBy w' row) (hne : row ≠ some b) : Blk w' b cs e :=
  (hg.block b h.lt (fun e => hne e.symm)).trans h
theorem Blk.below {w w' : World} {b B : Nat} {cs : Array Value} {e : TypeId} (h : Blk w b cs e) (hg : Below B w w') (hB : b < B) : Blk w' b cs e := (hg.block b hB).trans h
theorem Blk.set_other {w : World} {b : Nat} {cs : Array Value} {e : TypeId} (h : Blk w b cs e) (a : Addr) (u : Value) (hne : b ≠ a.block) : Blk (w.setCell a u) b cs e :=
  (Below.heap_setCell w a u b hne).trans h
theorem Blk.set {w : World} {b : Nat} {cs : Array Value} {e : TypeId} (h : Blk w b cs e) (j : Nat) (u : Value) : Blk (w.setCell ⟨b, j, none⟩ u) b (cs.setIfInBounds j u) e := by
  have hlt := h.lt
  unfold Blk at h ⊢
  have h' : w.heap[b] = .cells cs e (0, 0) := by simpa [Array.getElem?_eq_getElem hlt] using h
  show (w.heap.modify b _)[b]? = _
  rw [Array.getElem?_eq_getElem (by simpa using hlt), Array.getElem_modify_self, h']
  simp
theorem Blk.drew {w : World} {b : Nat} {cs : Array Value} {e : TypeId} (h : Blk w b cs e) : Blk w.drew b cs e := h
theorem Blk.drewN {w : World} {b : Nat} {cs : Array Value} {e : TypeId} (h : Blk w b cs e) (n : Nat) : Blk (w.drewN n) b cs e := h
theorem Blk.row {w : World} {b : Nat} {cs : Array Value} {e : TypeId} (h : Blk w b cs e) (sz n : Nat) (hn : cs.size = n * sz) (hm : n ≤ maxLen) : RowAt w sz (.slice (some ⟨b, 0, none⟩) n n) n cs.toList := by
  refine ⟨by simpa using hn, .inr ⟨b, 0, n, rfl, Nat.le_refl _, hm, h.lt, fun j hj => ?_⟩⟩
  rw [Nat.zero_add, cell_of_row w b j cs e (0, 0) h]
  simp

end Go.Proofs.Ytjjkgoekcpgilaa
