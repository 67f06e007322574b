import Derived.Test.YtkpinncakbnikaaNp1
import Derived.Deep.AppendSrc
import Derived.Laws.IdiomCopy
import Derived.Laws.OwnMore
import Derived.Laws.IdiomStrings
import Derived.Laws.StructEq
import Derived.ChangeKeysEq
import Derived.Laws.CopyRow
import Derived.Lib.UnsafeStr
import Derived.Lib.Builder
set_option linter.all false
namespace Np
open Go

/-! ## resources made of resources -/
def exE {α : Type} (f : α → Ent) : Ent := fun b =>
  { ok := fun fp sp w => ∃ a, (f a b).ok fp sp w
    st := fun h ⟨a, ha⟩ => ⟨a, (f a b).st h ha⟩
    lt := fun ⟨a, ha⟩ => (f a b).lt ha }
def andE (X : Ent) (k : Nat) (Y : Ent) : Ent := fun b =>
  { ok := fun fp sp w => ∃ f g s t, fp = f ++ g ∧ sp = s ++ t ∧ (X b).ok f s w ∧ (Y k).ok g t w
    st := fun {fp sp w w'} h ⟨f, g, s, t, e, e', hx, hy⟩ => ⟨f, g, s, t, e, e',
      (X b).st (fun x hx => h x (by rw [e, e']; exact hx.imp (List.mem_append_left _) (List.mem_append_left _))) hx,
      (Y k).st (fun x hx => h x (by rw [e, e']; exact hx.imp (List.mem_append_right _) (List.mem_append_right _))) hy⟩
    lt := fun {fp sp w} ⟨f, g, s, t, e, e', hx, hy⟩ x hm => by
      rw [e, e'] at hm
      simp only [List.mem_append] at hm
      rcases hm with (h | h) | (h | h)
      · exact (X b).lt hx x (.inl h)
      · exact (Y k).lt hy x (.inl h)
      · exact (X b).lt hx x (.inr h)
      · exact (Y k).lt hy x (.inr h) }
def puE (X : Ent) (φ : Prop) : Ent := fun b =>
  { ok := fun fp sp w => φ ∧ (X b).ok fp sp w
    st := fun h ⟨a, ha⟩ => ⟨a, (X b).st h ha⟩
    lt := fun ⟨_, ha⟩ => (X b).lt ha }

section
variable {w0 w w' : World} {F : Fp} {L L' : List (Nat × Ent)} {b k : Nat} {X Y : Ent}
theorem At.exE_iff {α : Type} {f : α → Ent} : At w0 F w ((b, exE f) :: L) ↔ ∃ a, At w0 F w ((b, f a) :: L) := by
  constructor
  · rintro ⟨fp, sp, ⟨f1, g, s, t, e, e', ⟨a, ha⟩, hl⟩, rest⟩; exact ⟨a, ⟨fp, sp, ⟨f1, g, s, t, e, e', ha, hl⟩, rest⟩⟩
  · rintro ⟨a, ⟨fp, sp, ⟨f1, g, s, t, e, e', ha, hl⟩, rest⟩⟩; exact ⟨fp, sp, ⟨f1, g, s, t, e, e', ⟨a, ha⟩, hl⟩, rest⟩
theorem At.andE_iff : At w0 F w ((b, andE X k Y) :: L) ↔ At w0 F w ((b, X) :: (k, Y) :: L) := by
  constructor
  · rintro ⟨fp, sp, ⟨f1, g, s, t, e, e', ⟨f2, f3, s2, s3, e2, e3, hx, hy⟩, hl⟩, rest⟩
    exact ⟨fp, sp, ⟨f2, f3 ++ g, s2, s3 ++ t, by rw [e, e2, List.append_assoc], by rw [e', e3, List.append_assoc], hx, f3, g, s3, t, rfl, rfl, hy, hl⟩, rest⟩
  · rintro ⟨fp, sp, ⟨f2, g, s2, t, e, e', hx, f3, g', s3, t', e2, e3, hy, hl⟩, rest⟩
    exact ⟨fp, sp, ⟨f2 ++ f3, g', s2 ++ s3, t', by rw [e, e2, List.append_assoc], by rw [e', e3, List.append_assoc], ⟨f2, f3, s2, s3, rfl, rfl, hx, hy⟩, hl⟩, rest⟩
theorem At.puE_iff {φ : Prop} : At w0 F w ((b, puE X φ) :: L) ↔ φ ∧ At w0 F w ((b, X) :: L) := by
  constructor
  · rintro ⟨fp, sp, ⟨f1, g, s, t, e, e', ⟨a, ha⟩, hl⟩, rest⟩; exact ⟨a, ⟨fp, sp, ⟨f1, g, s, t, e, e', ha, hl⟩, rest⟩⟩
  · rintro ⟨a, ⟨fp, sp, ⟨f1, g, s, t, e, e', ha, hl⟩, rest⟩⟩; exact ⟨fp, sp, ⟨f1, g, s, t, e, e', ⟨a, ha⟩, hl⟩, rest⟩
end

/-! ## a slice of the call's own: nil, or the head of a row -/
def own (v : Value) (n : Nat) (xs : List Value) (E size : Nat) : Ent := fun _ =>
  { ok := fun fp sp w => fp = v.ownBlock.toList ∧ sp = [] ∧ w.ownsRow 0 E size v n xs
    st := fun {fp sp w w'} h ⟨e, e', ho⟩ => ⟨e, e', by
      refine ⟨ho.1, ho.2.imp id ?_⟩
      rintro ⟨g, cap, cur, rfl, hb, hg, rest⟩
      exact ⟨g, cap, cur, rfl, hb, by rw [h g (by rw [e]; simp [Value.ownBlock])]; exact hg, rest⟩⟩
    lt := fun {fp sp w} ⟨e, e', ho⟩ x hx => by
      rw [e, e'] at hx
      exact (ho.lt x (by simpa using hx)).2 }
class RmV (L : List (Nat × Ent)) (v : Value) (n : outParam Nat) (xs : outParam (List Value)) (E size : outParam Nat) (L' : outParam (List (Nat × Ent))) : Prop where
  perm : ∃ k, L.Perm ((k, own v n xs E size) :: L')
instance {L : List (Nat × Ent)} {k : Nat} {v : Value} {n : Nat} {xs : List Value} {E size : Nat} : RmV ((k, own v n xs E size) :: L) v n xs E size L := ⟨k, List.Perm.refl _⟩
instance (priority := low) rmVSkip {L L' : List (Nat × Ent)} {c : Nat} {Y : Ent} {v : Value} {n : Nat} {xs : List Value} {E size : Nat} [h : RmV L v n xs E size L'] : RmV ((c, Y) :: L) v n xs E size ((c, Y) :: L') :=
  ⟨let ⟨k, h⟩ := h.perm; ⟨k, (h.cons _).trans (List.Perm.swap _ _ _)⟩⟩

section
variable {P : Program} {w0 w w' : World} {F : Fp} {L L' L2 : List (Nat × Ent)} {b k : Nat} {X Y : Ent} {v : Value} {n m E size bytes t tx ty : Nat} {xs news : List Value} {K : Value → Prop} {K2 : Value → World → Prop}

theorem At.owns (h : At w0 F w L) (r : RmV L v n xs E size L') : w.ownsRow 0 E size v n xs := by
  obtain ⟨k, hp⟩ := r.perm
  obtain ⟨fp, sp, ⟨f, g, s, t, e, e', hx, hl⟩, _⟩ := (h.perm hp).h
  exact hx.2.2

/-- the row is written, or a new one is laid -/
theorem At.ownNew (h : At w0 F w L) (r : RmV L v n xs E size L') {v' : Value} {n' : Nat} {xs' : List Value} (k' : Nat)
    (ho : w'.ownsRow 0 E size v' n' xs') (hg : w.grownBy w' v.ownBlock) (hb : v'.ownBlock = v.ownBlock ∨ ∀ g, v'.ownBlock = some g → w.heap.size ≤ g) :
    At w0 F w' ((k', own v' n' xs' E size) :: L') := by
  obtain ⟨k, hp⟩ := r.perm
  refine At.work (A := [(k, own v n xs E size)]) (B := [(k', own v' n' xs' E size)]) hp h fun f hf => ?_
  obtain ⟨fp, sp, ⟨f1, g1, s1, t1, rfl, rfl, hx, rfl, rfl⟩, h2, h3, h4, h5, h6⟩ := hf.h
  obtain ⟨e1, rfl, hx⟩ := hx
  refine ⟨v'.ownBlock.toList, [], ⟨v'.ownBlock.toList, [], [], [], by simp, rfl, ⟨rfl, rfl, ho⟩, rfl, rfl⟩, ?_, (fun _ _ h => by cases h), ?_, (fun _ h => by cases h), ⟨hg.size, fun c hc hcf => ?_, hg.os, hg.tape, hg.output⟩⟩
  · cases v'.ownBlock <;> simp
  · intro x hx'
    rcases hb with hb | hb
    · rw [hb, ← e1] at hx'; exact h4 x (by simpa using hx')
    · exact .inr (hb x (by simpa using hx'))
  · refine hg.block c hc fun e => hcf ?_
    have hm : c ∈ f1 ++ [] := by rw [e1, ← e]; simp
    rcases h4 c hm with h5 | h5
    · exact h5
    · omega

theorem setCells_heap (g : Nat) (E : TypeId) : ∀ (vs : List Value) (o : Nat) (w : World) (cur : List Value), w.heap[g]? = some (.cells cur.toArray E (0, 0)) → o + vs.length ≤ cur.length →
    (w.setCells g o vs).heap[g]? = some (.cells (cur.take o ++ vs ++ cur.drop (o + vs.length)).toArray E (0, 0)) ∧ (∀ c, c ≠ g → (w.setCells g o vs).heap[c]? = w.heap[c]?) ∧
      (w.setCells g o vs).heap.size = w.heap.size ∧ (w.setCells g o vs).os = w.os ∧ (w.setCells g o vs).tape = w.tape ∧ (w.setCells g o vs).output = w.output
  | [], o, w, cur, h, hl => ⟨by simp only [World.setCells, List.append_nil, List.length_nil, Nat.add_zero, List.take_append_drop]; exact h, fun _ _ => rfl, rfl, rfl, rfl, rfl⟩
  | v :: vs, o, w, cur, h, hl => by
    simp only [List.length_cons] at hl
    have h1 : (w.setCell ⟨g, o, none⟩ v).heap[g]? = some (.cells (cur.set o v).toArray E (0, 0)) := by
      simp [World.setCell, Array.getElem?_modify, h]
    obtain ⟨a1, a2, a3, a4, a5, a6⟩ := setCells_heap g E vs (o + 1) (w.setCell ⟨g, o, none⟩ v) (cur.set o v) h1 (by simp; omega)
    simp only [World.setCells]
    refine ⟨?_, fun c hc => ?_, ?_, a4, a5, a6⟩
    · rw [a1]
      congr 3
      simp only [List.length_cons]
      rw [show o + (vs.length + 1) = o + 1 + vs.length from by omega, List.drop_set_of_lt (by omega)]
      congr 1
      rw [List.take_set, List.take_succ_eq_append_getElem (by omega : o < cur.length)]
      have ho : (List.take o cur).length = o := by simp; omega
      rw [List.set_append_right _ _ (by omega)]
      simp [ho]
    · rw [a2 c hc]
      simp [World.setCell, Array.getElem?_modify, Ne.symm hc]
    · rw [a3]; simp [World.setCell]
theorem append_run (h : At w0 F w L) (r : RmV L v n xs E size L') {i : TypeInfo} {z : Value} {x : Value} (ht : P.underlying t = some (.slice E)) (hi : P.info? E = some i)
    (hz : i.zero = some z) (hsize : i.size = size) (hzs : z.cells.size = size) (hs : Src P size tx x m news w)
    (hb : n + m ≤ 140737488355328) (hbytes : (n + m) * i.bytes ≤ 140737488355328) (k' : Nat) :
    ∃ v' w', (Builtin.append_ #[t, tx] ty #[v, x]).run P w = .ok v' w' ∧ At w0 F w' ((k', own v' (n + m) (xs ++ news) E size) :: L') := by
  have ho := h.owns r
  subst hsize
  have hlen : (xs ++ news).length = (n + m) * i.size := by rw [List.length_append, ho.1, hs.newsLen, Nat.add_mul]
  have grown : ∀ (old : Nat), old < n + m → ∀ (olds : List Value), olds = xs →
      (w.drew.alloc (.cells ((olds ++ news).toArray ++ Builtin.zeroCells z.cells (grownCap w (n + m) old E - (n + m))) E)).ownsRow 0 E i.size
        (.slice (some ⟨w.heap.size, 0, none⟩) (n + m) (grownCap w (n + m) old E)) (n + m) (xs ++ news) ∧
      w.grownBy (w.drew.alloc (.cells ((olds ++ news).toArray ++ Builtin.zeroCells z.cells (grownCap w (n + m) old E - (n + m))) E)) v.ownBlock := by
    intro old hold olds hol
    subst hol
    have hge := grownCap_ge w (n + m) old E
    have hcm : grownCap w (n + m) old E ≤ maxLen := grownCap_le_maxLen w (n + m) old E (by unfold maxLen; omega)
    refine ⟨⟨hlen, .inr ⟨w.heap.size, _, _, rfl, Nat.zero_le _, heap_alloc_new w.drew _, hge, hcm, ?_, ?_⟩⟩, ⟨rfl, rfl, rfl, by simp, fun k hk _ => heap_alloc_old w.drew _ hk⟩⟩
    · rw [Array.size_append, size_zeroCells, hzs]
      simp only [List.size_toArray]
      rw [hlen, ← Nat.add_mul]
      congr 1
      omega
    · rw [Array.toList_append, ← hlen]
      exact List.take_left
  rcases ho.2 with ⟨rfl, rfl⟩ | ⟨g, cap, cur, rfl, hbg, hg, hnc, hcm, hcs, htake⟩
  · have hx : xs = [] := List.eq_nil_of_length_eq_zero (by simpa using ho.1)
    subst hx
    by_cases hm : m = 0
    · subst hm
      have hn : news = [] := List.eq_nil_of_length_eq_zero (by simpa using hs.newsLen)
      subst hn
      refine ⟨.slice none 0 0, w, ?_, h.ownNew r k' (World.ownsRow_nil w 0 E i.size) ⟨rfl, rfl, rfl, Nat.le_refl _, fun _ _ _ => rfl⟩ (.inl rfl)⟩
      rcases hs.kind with ⟨e', hk⟩ | hk <;> simp [Builtin.append_, run_underlying ht, run_underlying hk, Go.sizeOf, typeInfo, hi, hs.len, hs.cells]
    · have hr := run_append_grow_src (P := P) w t tx ty E i z ht hi hz none 0 0 [] (by simp [Builtin.firstCells]) x m news hs (by omega) (by omega)
        (growslice_fits (by omega) hbytes)
      obtain ⟨h1, h2⟩ := grown 0 (by omega) [] rfl
      refine ⟨_, _, hr, h.ownNew r k' h1 h2 (.inr fun g hg => ?_)⟩
      simp [Value.ownBlock] at hg; omega
  · by_cases hroom : n + m ≤ cap
    · have hfit : n * i.size + news.length ≤ cur.size := by rw [hs.newsLen, hcs, ← Nat.add_mul]; exact Nat.mul_le_mul_right _ hroom
      have hcell : ∀ j, w.cell? ⟨g, j, none⟩ = cur[j]? := fun j => by simp [World.cell?, hg]
      have hr := run_append_room_src (P := P) w t tx ty E i ht hi g 0 n cap x m news hs hroom (fun j hj => by rw [hcell]; simp; omega) (fun j hj => by simp [World.frozen?, hg])
      simp only [Nat.zero_add] at hr
      obtain ⟨a1, a2, a3, a4, a5, a6⟩ := setCells_heap g E news (n * i.size) w cur.toList (by simpa using hg) (by simpa using hfit)
      refine ⟨_, _, hr, h.ownNew r k' ⟨hlen, .inr ⟨g, cap, _, rfl, hbg, a1, hroom, hcm, ?_, ?_⟩⟩ ⟨a4, a5, a6, Nat.le_of_eq a3.symm, fun c _ hc => a2 c (fun e => hc (by simp [Value.ownBlock, e]))⟩ (.inl (by simp [Value.ownBlock]))⟩
      · simp only [List.size_toArray, List.length_append, List.length_take, List.length_drop, Array.length_toList]
        omega
      · rw [htake, ← hlen]
        exact List.take_left
    · have hold : (Builtin.firstCells i.size n (.slice (some ⟨g, 0, none⟩) n cap)).run P w.drew = .ok xs.toArray w.drew :=
        run_firstCells_some w.drew i.size n ⟨g, 0, none⟩ n cap xs ho.1 (by simpa using ho.cells (g := g) rfl)
      have hr := run_append_grow_src (P := P) w t tx ty E i z ht hi hz (some ⟨g, 0, none⟩) n cap xs hold x m news hs (by omega) (by omega) (growslice_fits (by omega) hbytes)
      obtain ⟨h1, h2⟩ := grown cap (by omega) xs rfl
      refine ⟨_, _, hr, h.ownNew r k' h1 h2 (.inr fun g hg => ?_)⟩
      simp [Value.ownBlock] at hg; omega

/-- a slice of n elements: nil, or at the head of its block -/
class SlV (v : Value) (n : outParam Nat) : Prop where
  h : (v = .slice none 0 0 ∧ n = 0) ∨ ∃ g cap, v = .slice (some ⟨g, 0, none⟩) n cap ∧ n ≤ cap
instance (priority := low) {v : Value} {n : Nat} [h : SlV v n] : Sc v := by
  rcases h.h with ⟨rfl, _⟩ | ⟨g, cap, rfl, _⟩ <;> exact ⟨rfl, rfl⟩
theorem own_slv (h : w.ownsRow 0 E size v n xs) : SlV v n := by
  refine ⟨?_⟩
  rcases h.2 with ⟨rfl, e⟩ | ⟨g, cap, cur, rfl, _, _, e, _⟩
  · exact .inl ⟨rfl, e⟩
  · exact .inr ⟨g, cap, rfl, e⟩
theorem own_sc (h : w.ownsRow 0 E size v n xs) : Sc v := by
  rcases h.2 with ⟨rfl, _⟩ | ⟨g, cap, cur, rfl, _⟩
  · exact ⟨rfl, rfl⟩
  · exact ⟨rfl, rfl⟩
theorem own_n (h : w.ownsRow 0 E size v n xs) : (v = .slice none 0 0 ∧ n = 0) ∨ ∃ g cap, v = .slice (some ⟨g, 0, none⟩) n cap ∧ n ≤ cap := by
  rcases h.2 with ⟨rfl, e⟩ | ⟨g, cap, cur, rfl, _, _, e, _⟩
  · exact .inl ⟨rfl, e⟩
  · exact .inr ⟨g, cap, rfl, e⟩

/-- an own row by its block -/
class RmB (L : List (Nat × Ent)) (b : Nat) (n c : outParam Nat) (xs : outParam (List Value)) (E size : outParam Nat) (L' : outParam (List (Nat × Ent))) : Prop where
  r : RmV L (.slice (some ⟨b, 0, none⟩) n c) n xs E size L'
instance {L : List (Nat × Ent)} {k b n c : Nat} {xs : List Value} {E size : Nat} : RmB ((k, own (.slice (some ⟨b, 0, none⟩) n c) n xs E size) :: L) b n c xs E size L := ⟨inferInstance⟩
instance (priority := low) {L L' : List (Nat × Ent)} {k b n c : Nat} {Y : Ent} {xs : List Value} {E size : Nat} [h : RmB L b n c xs E size L'] : RmB ((k, Y) :: L) b n c xs E size ((k, Y) :: L') :=
  ⟨@rmVSkip _ _ _ _ _ _ _ _ _ h.r⟩
end

def u8s (l : List UInt8) : List Value := l.map fun x => Value.int .u8 x.toNat
theorem u8s_len (l : List UInt8) : (u8s l).length = l.length := by simp [u8s]
theorem byteCells_mk (l : List UInt8) : byteCells ⟨l.toArray⟩ = u8s l := by simp [byteCells, u8s]

section
variable {P : Program} {w0 w w' : World} {F : Fp} {L L' L2 : List (Nat × Ent)} {b k o : Nat} {X Y : Ent} {v u : Value} {n m c E size bytes t tx ty : Nat} {xs ys news : List Value} {K : Value → Prop} {K2 : Value → World → Prop} {KW : World → Prop} {G : Prop} {ik : IntKind} {i : Int}

/-- an element type: its zero, its cells, its octets -/
class ElT (P : Program) (E : TypeId) (size bytes : outParam Nat) : Prop where
  h : (P.info? E).map (fun i => (i.size, i.bytes, (i.zero.map (·.cells.size)))) = some (size, bytes, some size)
theorem ElT.spec (h : ElT P E size bytes) : ∃ i z, P.info? E = some i ∧ i.zero = some z ∧ i.size = size ∧ i.bytes = bytes ∧ z.cells.size = size := by
  have := h.h
  cases hi : P.info? E with
  | none => rw [hi] at this; cases this
  | some i =>
    rw [hi] at this
    simp only [Option.map_some, Option.some.injEq, Prod.mk.injEq] at this
    obtain ⟨h1, h2, h3⟩ := this
    cases hz : i.zero with
    | none => rw [hz] at h3; cases h3
    | some z => rw [hz] at h3; exact ⟨i, z, rfl, hz, h1, h2, by simpa using h3⟩

instance [r : SlV v n] [hs : SlT P t E] : Step (pu P (bltS .len #[t] ty #[v]) K) (K (.int .i64 n)) :=
  ⟨fun hk => ⟨_, fun w1 => by
    rcases r.h with ⟨rfl, rfl⟩ | ⟨g, cap, rfl, _⟩ <;> simp [bltS, Builtin.len_, und_run hs.h, goInt], hk⟩⟩

instance [h : At w0 F w L] [r : RmV L v n xs E size L'] [ht : SlT P t E] [hu : StrT P tx] [el : ElT P E 1 bytes] {l : List UInt8} :
    Step (ef P (bltS .append #[t, tx] ty #[v, str l]) w K2)
      ((n + l.length ≤ 140737488355328 ∧ (n + l.length) * bytes ≤ 140737488355328 ∧ size = 1) ∧ ∀ v' w', SlV v' (n + l.length) → At w0 F w' ((0, own v' (n + l.length) (xs ++ u8s l) E 1) :: L') → K2 v' w') :=
  ⟨fun ⟨⟨h1, h2, h3⟩, hk⟩ => by
    obtain ⟨i, z, hi, hz, e1, e2, e3⟩ := el.spec
    subst h3
    have src := Src.ofString (P := P) w hu.h ⟨l.toArray⟩
    rw [size_mk, byteCells_mk] at src
    obtain ⟨v', w', hr, ha⟩ := append_run (ty := ty) h r ht.h hi hz e1 e3 src h1 (by rw [e2]; exact h2) 0
    exact ⟨v', w', hr, hk v' w' (own_slv (ha.owns inferInstance)) ha⟩⟩

/-- what a row of a temporary (or own) slice yields -/
theorem src_own (h : At w0 F w L) (r : RmV L v n xs E size L') (ht : P.underlying tx = some (.slice E)) (h1 : ∀ u ∈ xs, u.oneCell' = true) : Src P size tx v n xs w := by
  have ho := h.owns r
  rcases own_n ho with ⟨rfl, rfl⟩ | ⟨g, cap, rfl, _⟩
  · have : xs = [] := List.eq_nil_of_length_eq_zero (by simpa using ho.1)
    subst this
    exact Src.ofNil w ht 0
  · exact Src.ofSlice w ht ⟨g, 0, none⟩ n cap xs ho.1 (ho.cells (g := g) rfl) h1

/-- 'append(v, x..)', x a slice that is held too -/
instance appOwn [h : At w0 F w L] [r : RmV L v n xs E size L'] [r2 : RmV L u m ys E size L2] [ht : SlT P t E] [el : ElT P E size bytes] :
    Step (ef P (bltS .append #[t, t] ty #[v, u]) w K2)
      ((n + m ≤ 140737488355328 ∧ (n + m) * bytes ≤ 140737488355328 ∧ ∀ x ∈ ys, x.oneCell' = true) ∧ ∀ v' w', SlV v' (n + m) → At w0 F w' ((0, own v' (n + m) (xs ++ ys) E size) :: L') → K2 v' w') :=
  ⟨fun ⟨⟨h1, h2, h3⟩, hk⟩ => by
    obtain ⟨i, z, hi, hz, e1, e2, e3⟩ := el.spec
    obtain ⟨v', w', hr, ha⟩ := append_run (ty := ty) h r ht.h hi hz e1 e3 (src_own h r2 ht.h h3) h1 (by rw [e2]; exact h2) 0
    exact ⟨v', w', hr, hk v' w' (own_slv (ha.owns inferInstance)) ha⟩⟩

/-- an element's place -/
instance [r : SlV v n] [hs : SlT P t E] [hz : SzT P E size] : Step (pu P (Instr.indexAt t v (.int ik i)) K)
    ((0 ≤ i ∧ i < n) ∧ ∀ b c, v = .slice (some ⟨b, 0, none⟩) n c → K (.pointer (some ⟨b, i.toNat * size, none⟩))) :=
  ⟨fun ⟨⟨h1, h2⟩, hk⟩ => by
    rcases r.h with ⟨rfl, rfl⟩ | ⟨g, cap, rfl, _⟩
    · omega
    · refine ⟨_, fun w1 => ?_, hk g cap rfl⟩
      simp only [Instr.indexAt, asIntOf, Sem.run_bind, Sem.run_pure, Result.andThen_ok, und_run hs.h]
      rw [if_pos ⟨h1, h2⟩]
      simp only [Sem.run_bind, sizeOf_run (szOf_spec hz.h), Result.andThen_ok, Sem.run_pure, add_off, Nat.zero_add]⟩
instance (priority := high) [hs : SlT P t E] [hz : SzT P E size] : Step (pu P (Instr.indexAt t (.slice (some ⟨b, o, none⟩) n c) (.int ik i)) K)
    ((0 ≤ i ∧ i < n) ∧ K (.pointer (some ⟨b, o + i.toNat * size, none⟩))) :=
  ⟨fun ⟨⟨h1, h2⟩, hk⟩ => ⟨_, fun w1 => by
      simp only [Instr.indexAt, asIntOf, Sem.run_bind, Sem.run_pure, Result.andThen_ok, und_run hs.h]
      rw [if_pos ⟨h1, h2⟩]
      simp only [Sem.run_bind, sizeOf_run (szOf_spec hz.h), Result.andThen_ok, Sem.run_pure, add_off], hk⟩⟩

/-- reading and writing a row at a place -/
theorem own_cell (h : w.ownsRow 0 E size (.slice (some ⟨b, 0, none⟩) n c) n xs) {j : Nat} (hj : j < xs.length) : w.cell? ⟨b, j, none⟩ = some (xs.getD j undef) := by
  have := h.cells (g := b) rfl j (xs[j]) (List.getElem?_eq_getElem hj)
  rw [add_off, Nat.zero_add] at this
  rw [this]; simp [hj]
instance (priority := low) [h : At w0 F w L] [r : RmB L b n c xs E size L'] [ht : ScT P t] : Step (rd P (Instr.loadAt t (.pointer (some ⟨b, o, none⟩))) w K) (o < xs.length ∧ K (xs.getD o undef)) :=
  ⟨fun ⟨ho, hk⟩ => ⟨_, loadAt_run _ _ (loadVar_sc ht (own_cell (h.owns r.r) ho)), hk⟩⟩
instance (priority := low) [h : At w0 F w L] [r : RmB L b n c xs E size L'] [ht : AgT P t m] : Step (rd P (Instr.loadAt t (.pointer (some ⟨b, o, none⟩))) w K) (o + m ≤ xs.length ∧ K (.agg ((xs.drop o).take m).toArray)) :=
  ⟨fun ⟨ho, hk⟩ => ⟨_, loadAt_run _ _ (loadVar_ag ht (us := (xs.drop o).take m) (by simp; omega) (fun j hj => by
    rw [add_off, own_cell (h.owns r.r) (by omega)]
    simp [hj, List.getElem?_drop, show o + j < xs.length from by omega])), hk⟩⟩

theorem own_store (h : At w0 F w L) (r : RmB L b n c xs E size L') (ht : ScT P t) (hu : Sc u) (ho : o < xs.length) :
    (Instr.storeAt t (.pointer (some ⟨b, o, none⟩)) u).run P w = .ok () (w.setCell ⟨b, o, none⟩ u) ∧
      At w0 F (w.setCell ⟨b, o, none⟩ u) ((0, own (.slice (some ⟨b, 0, none⟩) n c) n (xs.set o u) E size) :: L') := by
  have how := h.owns r.r
  have hcell := own_cell how ho
  obtain ⟨hl, hcase⟩ := how
  rcases hcase with ⟨h', _⟩ | ⟨g, cap, cur, h', hb0, hg, hnc, hcm, hcs, htake⟩
  · simp at h'
  · simp only [Value.slice.injEq, Option.some.injEq, Addr.mk.injEq, and_true, true_and] at h'
    obtain ⟨rfl, rfl⟩ := h'
    have hf : w.frozen? ⟨b, o, none⟩ = false := by simp [World.frozen?, hg]
    constructor
    · simp only [Instr.storeAt, Instr.sureAddr, storeVar, Sem.run_bind, Sem.run_pure, Result.andThen_ok, sizeOf_run (szOf_spec ht.s), hu.h]
      simp only [List.size_toArray, List.length_cons, List.length_nil, Nat.zero_add, ne_eq, not_true, if_false, storeCells, Sem.run_bind, Addr.add, if_true]
      rw [run_store P w _ u .plain hu.o]
      simp [hcell, hf]
    · have hoc : o < cur.size := by
        have : xs.length ≤ cur.size := by rw [← htake]; simp; omega
        omega
      refine h.ownNew r.r 0 ⟨by simp [hl], .inr ⟨b, c, cur.setIfInBounds o u, rfl, hb0, ?_, hnc, hcm, by simp [hcs], ?_⟩⟩ ⟨rfl, rfl, rfl, by simp [World.setCell], fun k _ hk => ?_⟩ (.inl rfl)
      · simp [World.setCell, Array.getElem?_modify, hg]
      · rw [← htake]; simp [List.take_set]
      · have hne : b ≠ k := fun e => hk (by simp [Value.ownBlock, e])
        simp [World.setCell, Array.getElem?_modify, hne]
instance (priority := low) [h : At w0 F w L] [r : RmB L b n c xs E size L'] [ht : ScT P t] [hu : Sc u] : Step (efU P (Instr.storeAt t (.pointer (some ⟨b, o, none⟩)) u) w KW)
    (o < xs.length ∧ ∀ w', At w0 F w' ((0, own (.slice (some ⟨b, 0, none⟩) n c) n (xs.set o u) E size) :: L') → KW w') :=
  ⟨fun ⟨ho, hk⟩ => let ⟨h1, h2⟩ := own_store h r ht hu ho; ⟨_, h1, hk _ h2⟩⟩

/-- bytes as a string -/
instance {l : List UInt8} [h : At w0 F w L] [r : RmV L v n (u8s l) E 1 L'] [hs : SlT P t E] [he : IntT P E .u8] [hd : StrT P tx] : Step (rd P (convert t tx v) w K) (K (str l)) :=
  ⟨fun hk => ⟨_, by
    have ho := h.owns r
    have hl : l.length = n := by have := ho.1; rw [u8s_len] at this; omega
    subst hl
    rcases own_n ho with ⟨rfl, hn⟩ | ⟨g, cap, rfl, _⟩
    · have : l = [] := List.length_eq_zero_iff.1 hn
      subst this
      exact run_convert_bytes_nil w t E hs.h he.h 0 0 tx hd.h
    · exact run_convert_bytes_back w t tx E ⟨g, 0, none⟩ cap l hs.h he.h hd.h fun j hj => by
        have := ho.cells (g := g) rfl j (.int .u8 (l[j].toNat : Int)) (by simp [u8s, hj])
        exact this, hk⟩⟩
end
end Np
namespace Np
open Go
set_option linter.all false

/-! ## some cells of a row -/
instance {cs : List Value} : Sub cs 0 0 [] := ⟨rfl, fun j h => by omega⟩
instance {v : Value} {cs us : List Value} {n : Nat} [h : Sub cs 0 n us] : Sub (v :: cs) 0 (n + 1) (v :: us) :=
  ⟨by simp [h.h.1], fun j hj => by
    cases j with
    | zero => simp
    | succ j =>
      have := h.h.2 j (by omega)
      simp only [Nat.zero_add] at this ⊢
      simpa using this⟩
instance {u : Value} {cs us : List Value} {o n : Nat} [h : Sub cs o n us] : Sub (u :: cs) (o + 1) n us :=
  ⟨h.h.1, fun j hj => by rw [show o + 1 + j = (o + j) + 1 from by omega, List.getElem?_cons_succ]; exact h.h.2 j hj⟩

class Setsub (cs : List Value) (o : Nat) (us : List Value) (cs' : outParam (List Value)) : Prop where
  h : cs' = cs.take o ++ us ++ cs.drop (o + us.length)
  lt : o + us.length ≤ cs.length
instance {cs : List Value} : Setsub cs 0 [] cs := ⟨by simp, by simp⟩
instance {c u : Value} {cs us cs' : List Value} [h : Setsub cs 0 us cs'] : Setsub (c :: cs) 0 (u :: us) (u :: cs') :=
  ⟨by have := h.h; simp at this ⊢; exact this, by have := h.lt; simp at this ⊢; exact this⟩
instance {c : Value} {cs us cs' : List Value} {o : Nat} [h : Setsub cs o us cs'] : Setsub (c :: cs) (o + 1) us (c :: cs') :=
  ⟨by have := h.h; simp [this, Nat.add_right_comm], by have := h.lt; simp; omega⟩
class AllSc (us : List Value) : Prop where
  h : ∀ u ∈ us, u.oneCell' = true
instance : AllSc [] := ⟨fun u h => by cases h⟩
instance {u : Value} {us : List Value} [h : Sc u] [h' : AllSc us] : AllSc (u :: us) := ⟨fun v hv => by
  rcases List.mem_cons.1 hv with rfl | hv
  · exact h.o
  · exact h'.h v hv⟩

/-- to reckon with numbers as they stand -/
class MulC (a b : Nat) (c : outParam Nat) : Prop where
  h : a * b = c
instance (priority := high) {a : Nat} : MulC a 1 a := ⟨by simp⟩
instance {b : Nat} : MulC 0 b 0 := ⟨by simp⟩
instance {b : Nat} : MulC 1 b b := ⟨by simp⟩
instance (priority := low) {a b : Nat} : MulC a b (a * b) := ⟨rfl⟩

section
variable {P : Program} {w0 w w' : World} {F : Fp} {L L' L2 : List (Nat × Ent)} {b k o : Nat} {X Y : Ent} {v u : Value} {n m c E size bytes t tx ty T : Nat} {cs cs' us xs ys news : List Value} {K : Value → Prop} {K2 : Value → World → Prop} {KW : World → Prop} {G : Prop} {ik : IntKind} {i : Int}

instance (priority := high) [h : At w0 F w L] [r : RmV L v n xs E size L'] [r2 : RmV L u m ys E size L2] [ht : SlT P t E] [el : ElT P E size bytes] [al : AllSc ys] :
    Step (ef P (bltS .append #[t, t] ty #[v, u]) w K2)
      ((n + m ≤ 140737488355328 ∧ (n + m) * bytes ≤ 140737488355328) ∧ ∀ v' w', SlV v' (n + m) → At w0 F w' ((0, own v' (n + m) (xs ++ ys) E size) :: L') → K2 v' w') :=
  ⟨fun ⟨⟨h1, h2⟩, hk⟩ => (appOwn (h := h) (r := r) (r2 := r2) (ht := ht) (el := el)).out ⟨⟨h1, h2, al.h⟩, hk⟩⟩
theorem cells_lt {cs : List Value} {o : Nat} {v : Value} (h : cs[o]? = some v) : o < cs.length := by
  rcases Nat.lt_or_ge o cs.length with h' | h'
  · exact h'
  · rw [List.getElem?_eq_none h'] at h; cases h
theorem ext_sets (w : World) (b : Nat) : ∀ (us : List Value) (o : Nat), Ext w [b] (w.setCells b o us) := by
  intro us
  induction us generalizing w with
  | nil => intro o; exact Ext.refl _ _
  | cons u us ih => intro o; exact (ext_set w b o u).trans (ih _ _) (fun c hc => .inl hc)
theorem At.sets (h : At w0 F w L) (r : Rm L b (Np.cells cs T) L') {o : Nat} {us : List Value} (ho : o + us.length ≤ cs.length) :
    At w0 F (w.setCells b o us) ((b, Np.cells (cs.take o ++ us ++ cs.drop (o + us.length)) T) :: L') :=
  h.turn r (fun f s hx => ⟨hx.1, hx.2.1⟩) ⟨rfl, rfl, (setCells_heap b T us o w cs (h.cells r) ho).1⟩ (ext_sets _ _ _ _)
theorem frozen_cells (h : At w0 F w L) (r : Rm L b (Np.cells cs T) L') (o : Nat) : w.frozen? ⟨b, o, none⟩ = false := by simp [World.frozen?, h.cells r]

theorem storeAt_ag (ht : szOf P t = some n) (hn : us.length = n) (hu : ∀ u ∈ us, u.oneCell' = true) (hc : ∀ j, j < us.length → (w.cell? ⟨b, o + j, none⟩).isSome = true) (hf : ∀ j, j < us.length → w.frozen? ⟨b, o + j, none⟩ = false) :
    (Instr.storeAt t (.pointer (some ⟨b, o, none⟩)) (.agg us.toArray)).run P w = .ok () (w.setCells b o us) := by
  have := run_storeCells_cells (P := P) b o us 0 w (by simpa using hc) (by simpa using hf) hu
  simp only [Instr.storeAt, Instr.sureAddr, storeVar, Sem.run_bind, Sem.run_pure, Result.andThen_ok, sizeOf_run (szOf_spec ht)]
  have hcs : (Value.agg us.toArray).cells = us.toArray := rfl
  simp only [hcs, List.size_toArray, hn, ne_eq, not_true, if_false]
  simpa using this
instance [h : At w0 F w L] [r : Rm L b (cells cs T) L'] [ht : AgT P t n] [c : Setsub cs o us cs'] [hu : AllSc us] :
    Step (efU P (Instr.storeAt t (.pointer (some ⟨b, o, none⟩)) (.agg us.toArray)) w KW) (us.length = n ∧ ∀ w', At w0 F w' ((b, cells cs' T) :: L') → KW w') :=
  ⟨fun ⟨hn, hk⟩ => ⟨_, storeAt_ag ht.s hn hu.h (fun j hj => by
      have hl := c.lt
      rw [h.cell r, List.getElem?_eq_getElem (by omega)]; rfl) (fun j hj => frozen_cells h r _), hk _ (by
      have := h.sets r c.lt
      rw [← c.h] at this
      exact this)⟩⟩

/-- a field of an own row's element is read -/
instance (priority := default + 1) [h : At w0 F w L] [r : RmB L b n c xs E size L'] [ht : ScT P t] [hn : Nth xs o v] : Step (rd P (Instr.loadAt t (.pointer (some ⟨b, o, none⟩))) w K) (K v) :=
  ⟨fun hk => by
    have ho : o < xs.length := cells_lt hn.h
    have := own_cell (h.owns r.r) ho
    rw [List.getD_eq_getElem?_getD, hn.h] at this
    exact ⟨v, loadAt_run _ _ (loadVar_sc ht (by simpa using this)), hk⟩⟩
theorem own_rdV (h : At w0 F w L) (r : RmB L b n c xs E size L') (ht : ScT P t) (hn : xs[o]? = some v) : rdV P (Instr.loadAt t (.pointer (some ⟨b, o, none⟩))) v w := by
  have ho : o < xs.length := cells_lt hn
  have := own_cell (h.owns r.r) ho
  rw [List.getD_eq_getElem?_getD, hn] at this
  exact loadAt_run _ _ (loadVar_sc ht (by simpa using this))
instance (priority := low) [h : At w0 F w L] [r : RmB L b n c xs E size L'] [ht : ScT P t] : Step (rdV P (Instr.loadAt t (.pointer (some ⟨b, o, none⟩))) v w ∧ G) (xs[o]? = some v ∧ G) :=
  ⟨fun hk => ⟨own_rdV h r ht hk.1, hk.2⟩⟩
instance (priority := low) [h : At w0 F w L] [r : RmB L b n c xs E size L'] [ht : AgT P t m] : Step (rdV P (Instr.loadAt t (.pointer (some ⟨b, o, none⟩))) v w ∧ G) ((o + m ≤ xs.length ∧ v = .agg ((xs.drop o).take m).toArray) ∧ G) :=
  ⟨fun ⟨⟨ho, hv⟩, hk⟩ => ⟨by subst hv; exact loadAt_run _ _ (loadVar_ag ht (us := (xs.drop o).take m) (by simp; omega) (fun j hj => by
    rw [add_off, own_cell (h.owns r.r) (by omega)]
    simp [hj, List.getElem?_drop, show o + j < xs.length from by omega])), hk⟩⟩
end

/-! ## values of several parts -/
def placeOf (P : Program) (t i : Nat) : Option (Nat × Nat) :=
  match P.underlying t with
  | some (.struct _) => fieldOf P t i
  | some (.array _ e) => (szOf P e).map fun s => (i * s, s)
  | _ => none
def placesOk (P : Program) (t : Nat) : Bool :=
  match P.underlying t with
  | some (.struct fs) => fs.toList.all fun f => (P.info? f.type).isSome
  | some (.array _ e) => (P.info? e).isSome
  | _ => false
class PlaceAt (P : Program) (t i : Nat) (off n : outParam Nat) : Prop where
  h : placeOf P t i = some (off, n)
class BuildT (P : Program) (t : Nat) : Prop where
  h : placesOk P t = true
class Fill (P : Program) (t : Nat) (parts : List (Nat × Value)) (zs : List Value) (us : outParam (List Value)) : Prop where
  h : Instr.fill (placeOf P t) zs.toArray parts = some us.toArray
instance {P : Program} {t : Nat} {zs : List Value} : Fill P t [] zs zs := ⟨rfl⟩
theorem fold_set : ∀ (cs : List Value) (k off : Nat) (zs : List Value), off + k + cs.length ≤ zs.length →
    (cs.zipIdx k).foldl (fun (a : Array Value) (x : Value × Nat) => a.setIfInBounds (off + x.2) x.1) zs.toArray = (zs.take (off + k) ++ cs ++ zs.drop (off + k + cs.length)).toArray
  | [], k, off, zs, h => by simp
  | c :: cs, k, off, zs, h => by
    simp only [List.length_cons] at h
    simp only [List.zipIdx_cons, List.foldl_cons]
    rw [List.setIfInBounds_toArray, fold_set cs (k + 1) off _ (by simp; omega)]
    congr 1
    have h1 : (zs.set (off + k) c).take (off + (k + 1)) = zs.take (off + k) ++ [c] := by
      rw [List.take_set, show off + (k + 1) = off + k + 1 from by omega, List.take_succ_eq_append_getElem (by omega : off + k < zs.length)]
      rw [List.set_append_right _ _ (by simp; omega)]
      have : (List.take (off + k) zs).length = off + k := by simp; omega
      simp [this]
    rw [h1, List.drop_set_of_lt (by omega)]
    simp only [List.append_assoc, List.singleton_append, List.length_cons]
    rw [show off + (k + 1) + cs.length = off + k + (cs.length + 1) from by omega]
theorem fill_one {place : Nat → Option (Nat × Nat)} {i off n : Nat} {v : Value} {rest : List (Nat × Value)} {zs cs : List Value} (hp : place i = some (off, n)) (hv : v.cells = cs.toArray) (hn : cs.length = n) (hl : off + cs.length ≤ zs.length) :
    Instr.fill place zs.toArray ((i, v) :: rest) = Instr.fill place (zs.take off ++ cs ++ zs.drop (off + cs.length)).toArray rest := by
  simp only [Instr.fill, hp, hv, List.size_toArray]
  rw [if_neg (by simp [hn]; omega)]
  congr 1
  have := fold_set cs 0 off zs (by simpa using hl)
  simp only [Nat.add_zero] at this
  rw [← this]
  simp
class Len (cs : List Value) (n : Nat) : Prop where
  h : cs.length = n
instance : Len [] 0 := ⟨rfl⟩
instance {v : Value} {cs : List Value} {n : Nat} [h : Len cs n] : Len (v :: cs) (n + 1) := ⟨by simp [h.h]⟩
instance {P : Program} {t i off n : Nat} {v : Value} {rest : List (Nat × Value)} {zs cs zs' us : List Value} [p : PlaceAt P t i off n] [c : Cells v cs] [ln : Len cs n] [s : Setsub zs off cs zs'] [f : Fill P t rest zs' us] : Fill P t ((i, v) :: rest) zs us :=
  ⟨by rw [fill_one p.h c.h ln.h s.lt, ← s.h]; exact f.h⟩
section
variable {P : Program} {t : Nat} {K : Value → Prop} {zs us : List Value} {parts : List (Nat × Value)}
theorem mapM_sizes {w : World} : ∀ (fs : List Field), (fs.all fun f => (P.info? f.type).isSome) = true →
    ∃ l : List (Nat × Nat), (fs.mapM (fun f => do pure (f.offset, ← Go.sizeOf f.type)) : Sem (List (Nat × Nat))).run P w = .ok l w ∧
      ∀ i : Nat, l[i]? = (fs[i]?).bind fun (f : Field) => (P.info? f.type).map fun j => (f.offset, j.size)
  | [], _ => ⟨[], by simp, fun i => by simp⟩
  | f :: fs, h => by
    simp only [List.all_cons, Bool.and_eq_true] at h
    obtain ⟨j, hj⟩ := Option.isSome_iff_exists.1 h.1
    obtain ⟨l, h1, h2⟩ := mapM_sizes (w := w) fs h.2
    refine ⟨(f.offset, j.size) :: l, ?_, fun i => ?_⟩
    · simp only [List.mapM_cons, Sem.run_bind, sizeOf_run ⟨j, hj, rfl⟩, Result.andThen_ok, Sem.run_pure, h1]
    · cases i with
      | zero => simp [hj]
      | succ i => simpa using h2 i
theorem fill_congr {p q : Nat → Option (Nat × Nat)} (h : ∀ i, p i = q i) (zs : Array Value) (parts : List (Nat × Value)) : Instr.fill p zs parts = Instr.fill q zs parts := by
  rw [show p = q from funext h]
instance [z : Zero P t zs] [b : BuildT P t] [f : Fill P t parts zs us] : Step (pu P (Instr.build t parts.toArray) K) (K (.agg us.toArray)) :=
  pu_of fun w => by
    obtain ⟨i, v, h1, h2, h3⟩ := zeroOf_spec z.h
    have hb := b.h
    have hf := f.h
    unfold placesOk at hb
    unfold Instr.build
    simp only [zeroValue, typeInfo, Sem.run_bind, run_program, h1, Result.andThen_ok, Sem.run_pure, h2, h3]
    split at hb
    · rename_i fs hu
      obtain ⟨l, e1, e2⟩ := mapM_sizes (w := w) fs.toList hb
      simp only [und_run hu, Result.andThen_ok, Array.mapM_eq_mapM_toList, Sem.run_bind, Sem.run_map, e1]
      rw [show (fun i : Nat => (List.toArray l)[i]?) = placeOf P t from funext fun i => by
        simp only [List.getElem?_toArray, e2, placeOf, hu, fieldOf, Array.getElem?_toList]
        cases fs[i]? with
        | none => rfl
        | some f => rfl]
      simp only [Sem.run_pure, Result.andThen_ok, hf]
    · rename_i n e hu
      obtain ⟨j, hj⟩ := Option.isSome_iff_exists.1 hb
      simp only [und_run hu, Result.andThen_ok, Sem.run_bind, sizeOf_run ⟨j, hj, rfl⟩]
      rw [show (fun i => some (i * j.size, j.size)) = placeOf P t from funext fun i => by simp [placeOf, hu, szOf, hj]]
      simp only [hf, Sem.run_pure]
    · cases hb
end
end Np
namespace Np
open Go
set_option linter.all false

/-! ## slices that are laid, cut, copied -/
class LeL (a b : Nat) : Prop where
  h : a ≤ b
instance {b : Nat} : LeL 0 b := ⟨by omega⟩
instance {a b : Nat} [h : LeL a b] : LeL (a + 1) (b + 1) := ⟨by have := h.h; omega⟩
class App (cs xs : List Value) (ys : outParam (List Value)) : Prop where
  h : cs ++ xs = ys
instance {ys : List Value} : App [] ys ys := ⟨rfl⟩
instance {c : Value} {cs xs ys : List Value} [h : App cs xs ys] : App (c :: cs) xs (c :: ys) := ⟨by simp [h.h]⟩
class SeqP (size k : Nat) (parts : List (Nat × Value)) (xs : outParam (List Value)) : Prop where
  h : ∀ pre rest : List Value, pre.length = k * size → rest.length = parts.length * size → Instr.fill (fun i => some (i * size, size)) (pre ++ rest).toArray parts = some (pre ++ xs).toArray
  l : xs.length = parts.length * size
instance {size k : Nat} : SeqP size k [] [] := ⟨fun pre rest _ h => by
  have : rest = [] := List.length_eq_zero_iff.1 (by simpa using h)
  simp [this, Instr.fill], by simp⟩
instance {size k : Nat} {v : Value} {cs xs ys : List Value} {rest : List (Nat × Value)} [c : Cells v cs] [ln : Len cs size] [s : SeqP size (k + 1) rest xs] [a : App cs xs ys] : SeqP size k ((k, v) :: rest) ys :=
  ⟨fun pre r hp hr => by
    simp only [List.length_cons, Nat.add_mul, Nat.one_mul] at hr
    have hc := ln.h
    rw [fill_one (place := fun i => some (i * size, size)) rfl c.h ln.h (by simp; omega)]
    have h1 : (pre ++ r).take (k * size) = pre := by rw [← hp]; simp
    have h2 : (pre ++ r).drop (k * size + cs.length) = r.drop size := by rw [hc, ← hp, List.drop_append]; simp
    rw [h1, h2, s.h (pre ++ cs) (r.drop size) (by simp [hp, hc, Nat.add_mul]) (by simp; omega), ← a.h]
    simp, by rw [← a.h]; simp [ln.h, s.l, Nat.add_mul]; omega⟩

section
variable {P : Program} {w0 w w' : World} {F : Fp} {L L' L2 : List (Nat × Ent)} {b k o : Nat} {X Y : Ent} {v u : Value} {n m c c' E size bytes t tx ty T len : Nat} {cs cs' us xs ys news : List Value} {K : Value → Prop} {K2 : Value → World → Prop} {KW : World → Prop} {G : Prop} {ik ik' : IntKind} {i j : Int} {parts : List (Nat × Value)}

theorem At.ownLaid (h : At w0 F w L) {cur : List Value} (hl : xs.length = n * size) (hn : n ≤ c) (hc : c ≤ maxLen) (hcur : cur.length = c * size) (ht : cur.take (n * size) = xs) :
    At w0 F (psh w (.cells cur.toArray E)) ((w.heap.size, own (.slice (some ⟨w.heap.size, 0, none⟩) n c) n xs E size) :: L) := by
  refine h.laid ⟨by simp [Value.ownBlock], rfl, hl, .inr ⟨w.heap.size, c, cur.toArray, rfl, Nat.zero_le _, psh_new _ _, hn, hc, by simpa using hcur, by simpa using ht⟩⟩ (ext_alloc _ _)
instance [h : At w0 F w L] [ht : SlT P t E] [el : ElT P E size bytes] [s : SeqP size 0 parts xs] [l1 : LeL len 64] [l2 : LeL size 64] :
    Step (ef P (Instr.buildSlice t len parts.toArray) w K2) (parts.length = len ∧ ∀ b w', At w0 F w' ((b, own (.slice (some ⟨b, 0, none⟩) len len) len xs E size) :: L) → K2 (.slice (some ⟨b, 0, none⟩) len len) w') :=
  ⟨fun ⟨hpl, hk⟩ => by
    obtain ⟨i, z, hi, hz, e1, e2, e3⟩ := el.spec
    have h1 := l1.h
    have h2 := l2.h
    have hle : ¬ len * size > 2 ^ 24 := by
      have := Nat.mul_le_mul h1 h2
      omega
    have hf : ∀ zr : Array Value, Instr.fill (fun i => some (i * size, size)) ((Array.range (len * size)).map (zr[· % zr.size]!)) parts = some xs.toArray := fun zr => by
      have := s.h [] ((Array.range (len * size)).map (zr[· % zr.size]!)).toList (by simp) (by simp [hpl])
      simp only [List.nil_append, Array.toArray_toList] at this
      exact this
    have hx : xs.length = len * size := by rw [← hpl]; exact s.l
    refine ⟨_, psh w (.cells xs.toArray E), ?_, hk _ _ (h.ownLaid (c := len) (cur := xs) hx (Nat.le_refl _) (by unfold maxLen; omega) hx (by rw [← hx]; simp))⟩
    unfold Instr.buildSlice
    simp only [Sem.run_bind, und_run ht.h, Result.andThen_ok, sizeOf_run ⟨i, hi, e1⟩, if_neg hle, Sem.run_pure]
    by_cases h0 : len * size = 0
    · simp only [h0, if_true, Sem.run_pure, Result.andThen_ok]
      have := hf #[]
      simp only [h0] at this
      simp only [this, newRow, Sem.run_bind, run_newObj, Result.andThen_ok, Sem.run_pure]
      rfl
    · simp only [if_neg h0, zeroValue, typeInfo, Sem.run_bind, run_program, hi, Result.andThen_ok, Sem.run_pure, hz, hf z.cells, newRow, run_newObj]
      rfl⟩

/-- cutting -/
theorem sliceAt_run {lo hi : Option Value} {p q r : Nat} (hs : P.underlying t = some (.slice E)) (hz : szOf P E = some size) (w : World)
    (hb : (Instr.sliceBounds true n c lo hi none).run P w = .ok (p, q, r) w) : (Instr.sliceAt t (.slice (some ⟨b, o, none⟩) n c) lo hi none).run P w = .ok (.slice (some ⟨b, (if r = p then o else o + p * size), none⟩) (q - p) (r - p)) w := by
  simp only [Instr.sliceAt, Instr.slice, Sem.run_bind, und_run hs, Result.andThen_ok]
  simp only [hb, Result.andThen_ok, sizeOf_run (szOf_spec hz), Sem.run_pure]
  split <;> simp [add_off]
instance (priority := high) [hs : SlT P t E] [hz : SzT P E size] : Step (pu P (Instr.sliceAt t (.slice (some ⟨b, o, none⟩) n c) none (some (.int ik j)) none) K)
    ((0 ≤ j ∧ j ≤ c) ∧ K (.slice (some ⟨b, o, none⟩) j.toNat c)) :=
  ⟨fun ⟨⟨h1, h2⟩, hk⟩ => ⟨_, fun w => by
    have := sliceAt_run (b := b) (o := o) (lo := none) (hi := some (.int ik j)) (p := 0) (q := j.toNat) (r := c) (n := n) (c := c) hs.h hz.h w (by
      simp only [Instr.sliceBounds, Sem.run_bind, Sem.run_pure, Result.andThen_ok, if_true]
      rw [bound_run (by omega)]
      rfl)
    rw [this]
    simp only [Nat.zero_mul, Nat.add_zero, ite_self, Nat.sub_zero], hk⟩⟩
instance (priority := high) [hs : SlT P t E] [hz : SzT P E size] : Step (pu P (Instr.sliceAt t (.slice (some ⟨b, o, none⟩) n c) (some (.int ik i)) none none) K)
    ((0 ≤ i ∧ i ≤ n ∧ i < c) ∧ K (.slice (some ⟨b, o + i.toNat * size, none⟩) (n - i.toNat) (c - i.toNat))) :=
  ⟨fun ⟨⟨h1, h2, h3⟩, hk⟩ => ⟨_, fun w => by
    have := sliceAt_run (b := b) (o := o) (lo := some (.int ik i)) (hi := none) (p := i.toNat) (q := n) (r := c) (n := n) (c := c) hs.h hz.h w (by
      simp only [Instr.sliceBounds, Sem.run_bind, Sem.run_pure, Result.andThen_ok, Option.isSome_none, Bool.false_eq_true, if_false]
      rw [bound_run (by omega)]
      rfl)
    rw [this, if_neg (by omega)], hk⟩⟩

instance [hs : ArT P t n E] [hz : SzT P E size] : Step (pu P (Instr.sliceAt t (.pointer (some ⟨b, o, none⟩)) none (some (.int ik j)) none) K)
    ((0 ≤ j ∧ j ≤ n) ∧ K (.slice (some ⟨b, o, none⟩) j.toNat n)) :=
  ⟨fun ⟨⟨h1, h2⟩, hk⟩ => ⟨_, fun w => by
    have hb : (Instr.sliceBounds false n n none (some (.int ik j)) none).run P w = .ok (0, j.toNat, n) w := by
      simp only [Instr.sliceBounds, Sem.run_bind, Sem.run_pure, Result.andThen_ok, Bool.false_eq_true, if_false]
      rw [bound_run (by omega)]
      rfl
    simp only [Instr.sliceAt, Sem.run_bind, und_run hs.h, Result.andThen_ok, Instr.sureAddr, Sem.run_pure, hb, sizeOf_run (szOf_spec hz.h), Nat.zero_mul, add_off, Nat.add_zero, ite_self, Nat.sub_zero], hk⟩⟩
instance [hs : ArT P t n E] [hz : SzT P E size] : Step (pu P (Instr.indexAt t (.pointer (some ⟨b, o, none⟩)) (.int ik i)) K)
    ((0 ≤ i ∧ i < n) ∧ K (.pointer (some ⟨b, o + i.toNat * size, none⟩))) :=
  ⟨fun ⟨⟨h1, h2⟩, hk⟩ => ⟨_, fun w1 => by
      simp only [Instr.indexAt, asIntOf, Sem.run_bind, Sem.run_pure, Result.andThen_ok, und_run hs.h, Instr.sureAddr]
      rw [if_pos ⟨h1, h2⟩]
      simp only [Sem.run_bind, sizeOf_run (szOf_spec hz.h), Result.andThen_ok, Sem.run_pure, add_off], hk⟩⟩
/-- 'make' -/
instance [h : At w0 F w L] [ht : SlT P t E] [el : ElT P E size bytes] {n : Nat} {z : Value} [hz : Zero P E [z]] :
    Step (ef P (Instr.makeSlice t (.int ik n) (.int ik' n)) w K2) ((bytes * n ≤ 281474976710656 ∧ n ≤ 140737488355328 ∧ size = 1) ∧
      ∀ b w', At w0 F w' ((b, own (.slice (some ⟨b, 0, none⟩) n n) n (List.replicate n z) E 1) :: L) → K2 (.slice (some ⟨b, 0, none⟩) n n) w') :=
  ⟨fun ⟨⟨h1, h2, h3⟩, hk⟩ => by
    obtain ⟨i, z', hi, hz', e1, e2, e3⟩ := el.spec
    obtain ⟨i2, z2, hi2, hz2, hzc⟩ := zeroOf_spec hz.h
    obtain rfl : i = i2 := Option.some.inj (hi.symm.trans hi2)
    obtain rfl : z' = z2 := Option.some.inj (hz'.symm.trans hz2)
    subst h3
    have hb : (i.bytes : Int) * (n : Int) ≤ 281474976710656 := by
      have : ((i.bytes * n : Nat) : Int) ≤ 281474976710656 := by rw [e2]; omega
      rwa [Int.natCast_mul] at this
    have hr := run_make (P := P) w t E i z' ht.h hi hz' ik ik' n n (by omega) (Int.le_refl _) hb (by omega)
    refine ⟨_, _, hr, ?_⟩
    have hm : madeCells z'.cells ((n : Int).toNat * i.size) = (List.replicate n z).toArray := by
      rw [e1, hzc]
      simp only [Int.toNat_natCast, Nat.mul_one, madeCells]
      apply Array.ext
      · simp
      · intro k h1 h2
        simp [Nat.mod_one]
    rw [hm]
    simp only [Int.toNat_natCast]
    exact hk _ _ (h.ownLaid (c := n) (cur := List.replicate n z) (by simp) (Nat.le_refl _) (by unfold maxLen; omega) (by simp) (by simp))⟩

/-- 'copy' into a row from a row -/
instance [h : At w0 F w L] [r : RmB L b n c xs E 1 L'] [r2 : RmV L u m ys E 1 L2] [ht : SlT P t E] [hz : SzT P E 1] :
    Step (ef P (bltS .copy #[t, tx] ty #[.slice (some ⟨b, o, none⟩) k c', u]) w K2) ((m ≤ k ∧ o + m ≤ xs.length ∧ ∀ x ∈ ys, x.oneCell' = true) ∧
      ∀ w', At w0 F w' ((0, own (.slice (some ⟨b, 0, none⟩) n c) n (xs.take o ++ ys ++ xs.drop (o + m)) E 1) :: L') → K2 (.int .i64 m) w') :=
  ⟨fun ⟨⟨h1, h2, h3⟩, hk⟩ => by
    have ho2 := h.owns r2
    have ho := h.owns r.r
    have hys : ys.length = m := by simpa using ho2.1
    have hz' : (P.info? E).map (·.size) = some 1 := hz.h
    rcases own_n ho2 with ⟨rfl, rfl⟩ | ⟨g, cap, rfl, _⟩
    · have : ys = [] := List.length_eq_zero_iff.1 hys
      subst this
      refine ⟨_, w, run_copy_none w t tx ty E _ none k c' 0 0 ht.h hz' (by simp), hk w ?_⟩
      simp only [List.append_nil, Nat.add_zero, List.take_append_drop]
      exact h.ownNew r.r 0 ho ⟨rfl, rfl, rfl, Nat.le_refl _, fun _ _ _ => rfl⟩ (.inl rfl)
    · obtain ⟨hl, hcase⟩ := id ho
      rcases hcase with ⟨h', _⟩ | ⟨g', cap', cur, h', hb0, hg, hnc, hcm, hcs, htake⟩
      · simp at h'
      · simp only [Value.slice.injEq, Option.some.injEq, Addr.mk.injEq, and_true, true_and] at h'
        obtain ⟨rfl, rfl⟩ := h'
        have hxc : xs.length ≤ cur.size := by rw [← htake]; simp; omega
        have hr := run_copy_cells (P := P) w t tx ty E b o k c' ⟨g, 0, none⟩ m cap ys ht.h hz' (by rw [hys]; exact (Nat.min_eq_left h1).symm) (ho2.cells (g := g) rfl)
          (fun j hj => by rw [own_cell ho (by omega)]; rfl) (fun j hj => by simp [World.frozen?, hg]) h3
        rw [hys] at hr
        refine ⟨_, _, hr, hk _ ?_⟩
        obtain ⟨a1, a2, a3, a4, a5, a6⟩ := setCells_heap b E ys o w cur.toList (by simpa using hg) (by rw [hys]; simp; omega)
        refine h.ownNew r.r 0 ⟨by simp [hl]; omega, .inr ⟨b, c, _, rfl, hb0, a1, hnc, hcm, ?_, ?_⟩⟩ ⟨a4, a5, a6, Nat.le_of_eq a3.symm, fun q _ hq => a2 q (fun e => hq (by simp [Value.ownBlock, e]))⟩ (.inl rfl)
        · simp [hys]; omega
        · simp only [Nat.mul_one] at hl htake hcs ⊢
          have hx2 : xs = cur.toList.take n := htake.symm
          rw [hx2]
          have hcl : cur.toList.length = c := by simpa using hcs
          rw [hx2] at h2
          simp only [List.length_take, hcl] at h2
          apply List.ext_getElem?
          intro q
          simp only [List.getElem?_take, List.getElem?_append, List.length_take, List.getElem?_drop, List.length_append, hys]
          repeat' split
          all_goals first | rfl | omega | (congr 1; omega) | (rw [List.getElem?_eq_none (by omega)]) | skip
          all_goals simp_all
          all_goals omega⟩
end
end Np
namespace Np
open Go
set_option linter.all false

/-! ## slices that are only read -/
def sl (v : Value) (n : Nat) (xs : List Value) (size : Nat) : Ent := fun _ =>
  { ok := fun fp sp w => fp = [] ∧ xs.length = n * size ∧ (((v = .slice none 0 0 ∨ ∃ a cap, v = .slice (some a) 0 cap) ∧ n = 0 ∧ sp = []) ∨
      ∃ g o cap cur T fz, v = .slice (some ⟨g, o, none⟩) n cap ∧ n ≤ cap ∧ sp = [g] ∧ w.heap[g]? = some (.cells cur T fz) ∧ ∀ j, j < xs.length → cur[o + j]? = xs[j]?)
    st := fun {fp sp w w'} h ⟨e, hl, ho⟩ => ⟨e, hl, ho.imp id fun ⟨g, o, cap, cur, T, fz, h1, h2, h3, h4, h5⟩ =>
      ⟨g, o, cap, cur, T, fz, h1, h2, h3, by rw [h g (by rw [h3]; simp)]; exact h4, h5⟩⟩
    lt := fun {fp sp w} ⟨e, hl, ho⟩ x hx => by
      rcases ho with ⟨_, _, h⟩ | ⟨g, o, cap, cur, T, fz, h1, h2, h3, h4, h5⟩
      · rw [e, h] at hx; simp at hx
      · rw [e, h3] at hx; simp at hx; subst hx; exact heap_lt h4 }
/-- a slice of n elements -/
class SlG (v : Value) (n : outParam Nat) : Prop where
  h : ((v = .slice none 0 0 ∨ ∃ a cap, v = .slice (some a) 0 cap) ∧ n = 0) ∨ ∃ g o cap, v = .slice (some ⟨g, o, none⟩) n cap ∧ n ≤ cap
instance (priority := low) {v : Value} {n : Nat} [h : SlG v n] : Sc v := by
  rcases h.h with ⟨rfl | ⟨a, cap, rfl⟩, _⟩ | ⟨g, o, cap, rfl, _⟩ <;> exact ⟨rfl, rfl⟩
class HasS (L : List (Nat × Ent)) (v : Value) (n : outParam Nat) (xs : outParam (List Value)) (size : outParam Nat) : Prop where
  mem : ∃ k, (k, sl v n xs size) ∈ L
instance {L : List (Nat × Ent)} {k : Nat} {v : Value} {n : Nat} {xs : List Value} {size : Nat} : HasS ((k, sl v n xs size) :: L) v n xs size := ⟨k, by simp⟩
instance (priority := low) {L : List (Nat × Ent)} {c : Nat} {Y : Ent} {v : Value} {n : Nat} {xs : List Value} {size : Nat} [h : HasS L v n xs size] : HasS ((c, Y) :: L) v n xs size :=
  ⟨let ⟨k, h⟩ := h.mem; ⟨k, List.mem_cons_of_mem _ h⟩⟩

theorem perm_of_mem {α : Type} {a : α} {l : List α} (h : a ∈ l) : ∃ r, l.Perm (a :: r) := by
  obtain ⟨s, t, rfl⟩ := List.append_of_mem h
  exact ⟨s ++ t, List.perm_middle⟩
section
variable {P : Program} {w0 w w' : World} {F : Fp} {L L' L2 : List (Nat × Ent)} {b k o : Nat} {X Y : Ent} {v u : Value} {n m c E size bytes t t2 tx ty T : Nat} {cs cs' us xs ys zs news : List Value} {K : Value → Prop} {K2 : Value → World → Prop} {KW : World → Prop} {G : Prop} {ik : IntKind} {i : Int}

theorem At.key {f : Res} (h : At w0 F w ((k, fun _ => f) :: L)) (k' : Nat) : At w0 F w ((k', fun _ => f) :: L) := by
  obtain ⟨fp, sp, ⟨f, g, s, t, e1, e2, hx, hl⟩, rest⟩ := h.h
  exact ⟨fp, sp, ⟨f, g, s, t, e1, e2, hx, hl⟩, rest⟩
theorem At.dup (h : At w0 F w L) (hX : ∀ f s w, (X k).ok f s w → f = []) (hm : (k, X) ∈ L) : At w0 F w ((k, X) :: L) := by
  obtain ⟨r, hp⟩ := perm_of_mem hm
  have h1 := h.perm hp
  obtain ⟨fp, sp, ⟨f, g, s, t, rfl, rfl, hx, hl⟩, h2, h3, h4, h5, h6⟩ := h1.h
  obtain rfl := hX _ _ _ hx
  have : At w0 F w ((k, X) :: (k, X) :: r) := ⟨g, s ++ (s ++ t), ⟨[], g, s, s ++ t, rfl, rfl, hx, [], g, s, t, rfl, rfl, hx, hl⟩, h2, fun b hb hs => h3 b hb (by simp only [List.mem_append] at hs ⊢; rcases hs with h | h | h <;> simp [h]), h4, fun b hb => h5 b (by simp only [List.mem_append] at hb ⊢; rcases hb with h | h | h <;> simp [h]), h6⟩
  exact this.perm (hp.symm.cons _)
theorem At.sl (h : At w0 F w L) (r : HasS L v n xs size) : ∃ s, (Np.sl v n xs size 0).ok [] s w := by
  obtain ⟨k, hm⟩ := r.mem
  obtain ⟨r, hp⟩ := perm_of_mem hm
  obtain ⟨fp, sp, ⟨f, g, s, t, rfl, rfl, hx, hl⟩, _⟩ := (h.perm hp).h
  obtain ⟨rfl, h'⟩ := hx
  exact ⟨s, rfl, h'⟩
theorem At.dupS (h : At w0 F w L) (r : HasS L v n xs size) : At w0 F w ((0, Np.sl v n xs size) :: L) := by
  obtain ⟨k, hm⟩ := r.mem
  exact (h.dup (X := Np.sl v n xs size) (k := k) (fun f s w hx => hx.1) hm).key 0
theorem At.freeze (h : At w0 F w ((k, own v n xs E size) :: L)) : At w0 F w ((k, Np.sl v n xs size) :: L) := by
  obtain ⟨fp, sp, ⟨f, g, s, t, rfl, rfl, hx, hl⟩, h2, h3, h4, h5, h6⟩ := h.h
  obtain ⟨e, rfl, ho⟩ := hx
  have hn := List.nodup_append.1 h2
  refine ⟨g, f ++ t, ⟨[], g, f, t, rfl, rfl, ⟨rfl, ho.1, ?_⟩, hl⟩, hn.2.1, fun b hb hs => ?_, fun b hb => h4 b (by simp [hb]), fun b hb => ?_, h6⟩
  · rcases ho.2 with ⟨rfl, rfl⟩ | ⟨g', cap, cur, rfl, hb, hg, hnc, hcm, hcs, htake⟩
    · exact .inl ⟨.inl rfl, rfl, by simpa [Value.ownBlock] using e⟩
    · refine .inr ⟨g', 0, cap, cur, E, (0, 0), rfl, hnc, by simpa [Value.ownBlock] using e, hg, fun j hj => ?_⟩
      rw [← htake] at hj ⊢
      simp only [List.length_take] at hj
      rw [List.getElem?_take_of_lt (by omega)]
      simp
  · rcases List.mem_append.1 hs with hs | hs
    · exact hn.2.2 b hs b hb rfl
    · exact h3 b (by simp [hb]) (by simp [hs])
  · rcases List.mem_append.1 hb with hb | hb
    · rcases h4 b (by simp [hb]) with h7 | h7
      · exact .inr (.inl h7)
      · exact .inr (.inr h7)
    · exact h5 b (by simp [hb])
/-- a callee that only reads a slice -/
theorem At.reads (h : At w0 F w L) (r : HasS L v n xs size) (hw : ∀ f, At w f w [(0, Np.sl v n xs size)] → At w f w' []) : At w0 F w' L :=
  At.work (A := [(0, Np.sl v n xs size)]) (B := []) (R := L) (List.Perm.refl _) (h.dupS r) hw

theorem sl_n {s : List Nat} (h : (Np.sl v n xs size 0).ok [] s w) : ((v = .slice none 0 0 ∨ ∃ a cap, v = .slice (some a) 0 cap) ∧ n = 0 ∧ xs = []) ∨ ∃ g o cap, v = .slice (some ⟨g, o, none⟩) n cap ∧ n ≤ cap ∧ xs.length = n * size ∧ ∀ j, j < xs.length → w.cell? ⟨g, o + j, none⟩ = xs[j]? := by
  obtain ⟨_, hl, ⟨h0, rfl, _⟩ | ⟨g, o, cap, cur, T, fz, rfl, h2, h3, h4, h5⟩⟩ := h
  · exact .inl ⟨h0, rfl, List.length_eq_zero_iff.1 (by simpa using hl)⟩
  · exact .inr ⟨g, o, cap, rfl, h2, hl, fun j hj => by simp [World.cell?, h4, h5 j hj]⟩
theorem At.slSub (h : At w0 F w L) (r : HasS L (.slice (some ⟨b, o, none⟩) n c) n xs size) {i m c' : Nat} (hi : i + m ≤ n) (hm : m ≤ c') : At w0 F w ((0, Np.sl (.slice (some ⟨b, o + i * size, none⟩) m c') m ((xs.drop (i * size)).take (m * size)) size) :: L) := by
  have h1 := h.dupS r
  obtain ⟨fp, sp, ⟨f, g, s, t, rfl, rfl, hx, hl⟩, rest⟩ := h1.h
  refine ⟨f ++ g, s ++ t, ⟨f, g, s, t, rfl, rfl, ?_, hl⟩, rest⟩
  obtain ⟨hf, hlen, ⟨h', hn0, hs0⟩ | ⟨g', o', cap, cur, T, fz, h', h2, h3, h4, h5⟩⟩ := hx
  · have hm0 : m = 0 := by omega
    subst hm0
    exact ⟨hf, by simp, .inl ⟨.inr ⟨_, _, rfl⟩, rfl, hs0⟩⟩
  · simp only [Value.slice.injEq, Option.some.injEq, Addr.mk.injEq, and_true, true_and] at h'
    obtain ⟨⟨rfl, rfl⟩, rfl⟩ := h'
    have hmul : i * size + m * size ≤ n * size := by rw [← Nat.add_mul]; exact Nat.mul_le_mul_right _ hi
    refine ⟨hf, by simp; omega, .inr ⟨b, o + i * size, c', cur, T, fz, rfl, hm, h3, h4, fun j hj => ?_⟩⟩
    simp only [List.length_take, List.length_drop] at hj
    rw [List.getElem?_take_of_lt (by omega), List.getElem?_drop, ← h5 _ (by omega)]
    congr 1
    omega

theorem At.slG (h : At w0 F w L) (r : HasS L v n xs size) : SlG v n := by
  obtain ⟨s, hx⟩ := h.sl r
  rcases sl_n hx with ⟨h0, rfl, _⟩ | ⟨g, o, cap, rfl, h, _⟩
  · exact ⟨.inl ⟨h0, rfl⟩⟩
  · exact ⟨.inr ⟨g, o, cap, rfl, h⟩⟩
instance (priority := low) [r : SlG v n] [hs : SlT P t E] : Step (pu P (bltS .len #[t] ty #[v]) K) (K (.int .i64 n)) :=
  ⟨fun hk => ⟨_, fun w1 => by
    rcases r.h with ⟨rfl | ⟨a, cap, rfl⟩, rfl⟩ | ⟨g, o, cap, rfl, _⟩ <;> simp [bltS, Builtin.len_, und_run hs.h, goInt], hk⟩⟩
/-- an element of a slice that is read: its place, and what stands there, in one -/
theorem sl_load {s : List Nat} (hx : (Np.sl v n xs size 0).ok [] s w) (hs : P.underlying t = some (.slice E)) (hz : szOf P E = some size) (h1 : 0 ≤ i) (h2 : i < n) :
    ∃ p : Addr, (∀ w1, (Instr.indexAt t v (.int ik i)).run P w1 = .ok (.pointer (some p)) w1) ∧ ∀ j, j < size → w.cell? (p.add j) = xs[i.toNat * size + j]? := by
  rcases sl_n hx with ⟨_, rfl, _⟩ | ⟨g, o, cap, rfl, hc, hl, hcell⟩
  · omega
  · refine ⟨⟨g, o + i.toNat * size, none⟩, fun w1 => ?_, fun j hj => ?_⟩
    · simp only [Instr.indexAt, asIntOf, Sem.run_bind, Sem.run_pure, Result.andThen_ok, und_run hs]
      rw [if_pos ⟨h1, h2⟩]
      simp only [Sem.run_bind, sizeOf_run (szOf_spec hz), Result.andThen_ok, Sem.run_pure, add_off]
    · rw [add_off, ← hcell]
      · congr 2; omega
      · rw [hl]
        have : (i.toNat + 1) * size ≤ n * size := Nat.mul_le_mul_right _ (by omega)
        rw [Nat.add_mul] at this
        omega
instance (priority := 20000) [h : At w0 F w L] [r : HasS L v n xs 1] [hs : SlT P t E] [hz : SzT P E 1] [ht : ScT P t2] :
    Step (pu P (Instr.indexAt t v (.int ik i)) (fun p => rd P (Instr.loadAt t2 p) w K)) ((0 ≤ i ∧ i < n) ∧ K (xs.getD i.toNat undef)) :=
  ⟨fun ⟨⟨h1, h2⟩, hk⟩ => by
    obtain ⟨s, hx⟩ := h.sl r
    obtain ⟨p, hp, hc⟩ := sl_load (ik := ik) hx hs.h hz.h h1 h2
    have hl : xs.length = n := by have := hx.2.1; omega
    refine ⟨_, hp, _, loadAt_run _ _ (loadVar_sc ht ?_), hk⟩
    have := hc 0 (by omega)
    rw [show p.add 0 = p from by obtain ⟨a, b, c⟩ := p; unfold Addr.add; split <;> simp_all] at this
    rw [this]
    simp [List.getD_eq_getElem?_getD, show i.toNat < xs.length from by omega]⟩
instance (priority := 20000) [h : At w0 F w L] [r : HasS L v n xs size] [hs : SlT P t E] [hz : SzT P E size] [ht : AgT P t2 size] :
    Step (pu P (Instr.indexAt t v (.int ik i)) (fun p => rd P (Instr.loadAt t2 p) w K)) ((0 ≤ i ∧ i < n) ∧ K (.agg ((xs.drop (i.toNat * size)).take size).toArray)) :=
  ⟨fun ⟨⟨h1, h2⟩, hk⟩ => by
    obtain ⟨s, hx⟩ := h.sl r
    obtain ⟨p, hp, hc⟩ := sl_load (ik := ik) hx hs.h hz.h h1 h2
    have hl := hx.2.1
    have : (i.toNat + 1) * size ≤ n * size := Nat.mul_le_mul_right _ (by omega)
    rw [Nat.add_mul] at this
    refine ⟨_, hp, _, loadAt_run _ _ (loadVar_ag ht (us := (xs.drop (i.toNat * size)).take size) (by simp; omega) fun j hj => ?_), hk⟩
    rw [hc j hj]
    simp [hj, List.getElem?_drop]⟩

instance (priority := 20001) slU8 {l : List UInt8} [h : At w0 F w L] [r : HasS L v n (u8s l) 1] [hs : SlT P t E] [hz : SzT P E 1] [ht : ScT P t2] :
    Step (pu P (Instr.indexAt t v (.int ik i)) (fun p => rd P (Instr.loadAt t2 p) w K)) ((0 ≤ i ∧ i < n) ∧ ((l.getD i.toNat 0).toNat ≤ 255 → K (.int .u8 (l.getD i.toNat 0).toNat))) :=
  ⟨fun ⟨hi, hk⟩ => Step.out ⟨hi, by
    replace hk := hk (by have := (l.getD i.toNat 0).toNat_lt; omega)
    obtain ⟨s, hx⟩ := h.sl r
    have hl : l.length = n := by have := hx.2.1; rw [u8s_len] at this; omega
    have h2 : i.toNat < l.length := by omega
    rw [show (u8s l).getD i.toNat undef = .int .u8 (l.getD i.toNat 0).toNat from by simp [u8s, h2]]
    exact hk⟩⟩
def strs (l : List (List UInt8)) : List Value := l.map str
theorem strs_get {l : List (List UInt8)} {i : Nat} (h : i < l.length) : (strs l).getD i undef = str (l.getD i []) := by simp [strs, h]
instance (priority := 20001) slStr {l : List (List UInt8)} [h : At w0 F w L] [r : HasS L v n (strs l) 1] [hs : SlT P t E] [hz : SzT P E 1] [ht : ScT P t2] :
    Step (pu P (Instr.indexAt t v (.int ik i)) (fun p => rd P (Instr.loadAt t2 p) w K)) ((0 ≤ i ∧ i < n) ∧ K (str (l.getD i.toNat []))) :=
  ⟨fun ⟨hi, hk⟩ => Step.out ⟨hi, by
    obtain ⟨s, hx⟩ := h.sl r
    have hl : l.length = n := by have := hx.2.1; simpa [strs] using this
    rw [strs_get (by omega)]
    exact hk⟩⟩
/-- octets of a string -/
instance [h : At w0 F w L] [hs : StrT P t] [hd : SlT P t2 E] [he : IntT P E .u8] {l : List UInt8} :
    Step (ef P (convert t t2 (str l)) w K2) (∀ b c w', l.length ≤ c → At w0 F w' ((b, Np.sl (.slice (some ⟨b, 0, none⟩) l.length c) l.length (u8s l) 1) :: L) → K2 (.slice (some ⟨b, 0, none⟩) l.length c) w') :=
  ⟨fun hk => by
    have hr := run_bytes_of_string (P := P) w t t2 E ⟨l.toArray⟩ hs.h hd.h he.h
    rw [size_mk] at hr
    have hcap := grownCap_ge w l.length 0 E
    refine ⟨_, _, hr, hk _ _ _ hcap ?_⟩
    refine At.work0 (B := [(w.heap.size, Np.sl (.slice (some ⟨w.heap.size, 0, none⟩) l.length (grownCap w l.length 0 E)) l.length (u8s l) 1)]) h
      ⟨[], [w.heap.size], ⟨[], [], [w.heap.size], [], rfl, rfl, ⟨rfl, by simp [u8s], .inr ⟨w.heap.size, 0, _, _, _, _, rfl, hcap, rfl, heap_alloc_new w.drew _, fun j hj => ?_⟩⟩, rfl, rfl⟩, List.nodup_nil, (fun _ h => by cases h), (fun _ h => by cases h), fun b hb => ?_, ?_⟩
    · rw [u8s_len] at hj
      simp [bytesRow, u8s, Array.getElem?_append, hj]
    · simp at hb; right; right; omega
    · exact ⟨by simp, fun b hb _ => heap_alloc_old w.drew _ hb, rfl, rfl, rfl⟩⟩
end

/-! ## arrays and structs as values -/
section
variable {P : Program} {w0 w w' : World} {F : Fp} {L L' L2 : List (Nat × Ent)} {b k o : Nat} {X Y : Ent} {v u x y : Value} {n m c E size bytes t t2 tx ty T off : Nat} {cs cs' us xs ys zs news : List Value} {K : Value → Prop} {K2 : Value → World → Prop} {KW : World → Prop} {G : Prop} {ik : IntKind} {i : Int} {e1 e2 e : Bool} {fx fy : Bool}
instance [ht : ArT P t n E] [hc : ScT P E] : Step (pu P (Instr.index t (.agg cs.toArray) (.int ik i)) K) ((0 ≤ i ∧ i < n ∧ n ≤ cs.length) ∧ K (cs.getD i.toNat undef)) :=
  ⟨fun ⟨⟨h1, h2, h3⟩, hk⟩ => ⟨_, fun w => by
    have hl : i.toNat < cs.length := by omega
    simp only [Instr.index, asIntOf, Sem.run_bind, Sem.run_pure, Result.andThen_ok, und_run ht.h]
    rw [if_pos ⟨h1, h2⟩]
    simp only [Sem.run_bind, sizeOf_run (szOf_spec hc.s), Result.andThen_ok, part, isAgg_sc hc, Bool.false_eq_true, if_false, Nat.mul_one, List.getElem?_toArray, List.getElem?_eq_getElem hl, Sem.run_pure]
    simp [hl], hk⟩⟩
class EqS (P : Program) (t : Nat) (x y : Value) (e : outParam Bool) : Prop where
  h : ∀ d w, (Op.equalIn (d + 1) t x y).run P w = .ok e w
instance {a b : Int} {kk : IntKind} [h : IntT P t kk] : EqS P t (.int ik a) (.int ik b) (dec (a = b)) := ⟨fun d w => by rw [run_equalIn_int w d t ik kk a b h.h, dec_eq, beq_dec]⟩
instance {a b : Bool} [h : BoolT P t] : EqS P t (.bool a) (.bool b) (dec (a = b)) := ⟨fun d w => by rw [run_equalIn_bool' w d t a b h.h, dec_eq, beq_dec]⟩
instance {a b : List UInt8} [h : StrT P t] : EqS P t (str a) (str b) (dec (a = b)) := ⟨fun d w => by rw [run_equalIn_string w d t _ _ h.h, dec_eq, beq_dec]; simp⟩
class EqFs (P : Program) (l : List (Nat × Nat)) (xs ys : List Value) (e : outParam Bool) : Prop where
  h : ∀ d w, l.foldr (fun f K w => ((part f.1 xs.toArray f.2).run P w).andThen fun a w => ((part f.1 ys.toArray f.2).run P w).andThen fun b w => ((Op.equalIn (d + 1) f.1 a b).run P w).andThen fun r w => if r then K w else .ok false w) (fun w => Result.ok true w) w = .ok e w
instance : EqFs P [] xs ys true := ⟨fun d w => rfl⟩
theorem part_run (hc : ScT P t) (hn : Nth xs off x) : (part t xs.toArray off).run P w = .ok x w := by
  simp [part, isAgg_sc hc, hn.h]
instance eqFsOne [hc : ScT P t] [h1 : Nth xs off x] [h2 : Nth ys off y] [h3 : EqS P t x y e] : EqFs P [(t, off)] xs ys e :=
  ⟨fun d w => by simp only [List.foldr, part_run hc h1, part_run hc h2, h3.h, Result.andThen_ok]; cases e <;> rfl⟩
instance (priority := low) {l : List (Nat × Nat)} [hc : ScT P t] [h1 : Nth xs off x] [h2 : Nth ys off y] [h3 : EqS P t x y e1] [h4 : EqFs P l xs ys e2] : EqFs P ((t, off) :: l) xs ys (e1 && e2) :=
  ⟨fun d w => by
    simp only [List.foldr, part_run hc h1, part_run hc h2, h3.h, Result.andThen_ok]
    cases e1
    · rfl
    · have := h4.h d w
      simpa using this⟩
def partsOf (P : Program) (t : Nat) : Option (List (Nat × Nat)) :=
  match P.underlying t with
  | some (.struct fs) => cond (P.stoodInHeld t || P.eqGuardType P.depth t || fs.toList.any (fun f => f.name == "_")) none (some (fs.toList.map fun f => (f.type, f.offset)))
  | some (.array n e) => cond (P.eqGuardType P.depth t || !(szOf P e == some 1)) none (some ((List.range n).map fun i => (e, i)))
  | _ => none
class PartsT (P : Program) (t : Nat) (l : outParam (List (Nat × Nat))) : Prop where
  h : partsOf P t = some l
theorem eqFields_fold (d : Nat) : ∀ (fs : List Field) (w : World), fs.any (fun f => f.name == "_") = false →
    (Op.eqFields (d + 1) xs.toArray ys.toArray fs).run P w = (fs.map fun f => (f.type, f.offset)).foldr (fun f K w => ((part f.1 xs.toArray f.2).run P w).andThen fun a w => ((part f.1 ys.toArray f.2).run P w).andThen fun b w => ((Op.equalIn (d + 1) f.1 a b).run P w).andThen fun r w => if r then K w else .ok false w) (fun w => Result.ok true w) w
  | [], w, h => by simp [Op.eqFields]
  | f :: fs, w, h => by
    simp only [List.any_cons, Bool.or_eq_false_iff, beq_eq_false_iff_ne] at h
    simp only [Op.eqFields, List.map_cons, List.foldr_cons, h.1, ne_eq, not_false_eq_true, if_true, Sem.run_bind]
    congr 1; funext a w1; congr 1; funext b w2; congr 1; funext r w3
    cases r
    · simp
    · simpa using eqFields_fold d fs w3 h.2
theorem eqItems_fold (d : Nat) : ∀ (is : List Nat) (w : World),
    (Op.eqItems (d + 1) E 1 xs.toArray ys.toArray is).run P w = (is.map fun i => (E, i)).foldr (fun f K w => ((part f.1 xs.toArray f.2).run P w).andThen fun a w => ((part f.1 ys.toArray f.2).run P w).andThen fun b w => ((Op.equalIn (d + 1) f.1 a b).run P w).andThen fun r w => if r then K w else .ok false w) (fun w => Result.ok true w) w
  | [], w => by simp [Op.eqItems]
  | i :: is, w => by
    simp only [Op.eqItems, List.map_cons, List.foldr_cons, Sem.run_bind, Nat.mul_one]
    congr 1; funext a w1; congr 1; funext b w2; congr 1; funext r w3
    cases r
    · simp
    · simpa using eqItems_fold d is w3
theorem eq_parts {l : List (Nat × Nat)} (hp : PartsT P t l) (hf : EqFs P l xs ys e) (w : World) : P.eqGuardType P.depth t = false ∧ (Op.equalIn 10000 t (.agg xs.toArray) (.agg ys.toArray)).run P w = .ok e w := by
  have h := hp.h
  unfold partsOf at h
  split at h
  · rename_i fs hu
    cases hc : (P.stoodInHeld t || P.eqGuardType P.depth t || fs.toList.any (fun f => f.name == "_")) with
    | true => rw [hc] at h; cases h
    | false =>
      rw [hc] at h
      simp only [Bool.or_eq_false_iff] at hc
      simp only [cond_false, Option.some.injEq] at h
      refine ⟨hc.1.2, ?_⟩
      have hfs : P.fieldsOf t = fs := by simp [Program.fieldsOf, hu]
      rw [run_equalIn_agg w 9999 t _ _ (by rw [hfs]; exact hu) hc.1.1, hfs, eqFields_fold 9998 _ _ hc.2, h]
      exact hf.h 9998 w
  · rename_i n e' hu
    cases hc : (P.eqGuardType P.depth t || !(szOf P e' == some 1)) with
    | true => rw [hc] at h; cases h
    | false =>
      rw [hc] at h
      simp only [Bool.or_eq_false_iff, Bool.not_eq_false', beq_iff_eq] at hc
      simp only [cond_false, Option.some.injEq] at h
      obtain ⟨i, h1, h2⟩ := szOf_spec hc.2
      refine ⟨hc.1, ?_⟩
      rw [run_equalIn_array w 9999 _ _ hu h1, show P.cellsOf e' = 1 from by simp [Program.cellsOf, h1, h2], eqItems_fold 9998, h]
      exact hf.h 9998 w
  · cases h
instance {l : List (Nat × Nat)} [hp : PartsT P t l] [hf : EqFs P l xs ys e] : Step (pu P (bin .eql t fx fy (.agg xs.toArray) (.agg ys.toArray)) K) (K (.bool e)) :=
  pu_of fun w => by
    obtain ⟨h1, h2⟩ := eq_parts hp hf w
    simp only [bin, Sem.run_bind, eqF, run_eqGuard_agg w _ _ _ _ _ _ h1, Result.andThen_ok, run_eql_struct, h2]
instance {l : List (Nat × Nat)} [hp : PartsT P t l] [hf : EqFs P l xs ys e] : Step (pu P (bin .neq t fx fy (.agg xs.toArray) (.agg ys.toArray)) K) (K (.bool (!e))) :=
  pu_of fun w => by
    obtain ⟨h1, h2⟩ := eq_parts hp hf w
    simp only [bin, Sem.run_bind, eqF, run_eqGuard_agg w _ _ _ _ _ _ h1, Result.andThen_ok, run_neq_struct, h2]
instance {a b : Bool} {p q : Prop} [h1 : BoolP a p] [h2 : BoolP b q] : BoolP (a && b) (p ∧ q) := ⟨by have := h1.h; have := h2.h; simp_all⟩
end
end Np
namespace Np
open Go
set_option linter.all false

/-! ## maps -/
def mapE {κ : Type} (key : κ → Value) (m : List (κ × Value)) : Ent := fun b =>
  { ok := fun fp sp w => fp = [b] ∧ sp = [] ∧ ∃ es clock, w.heap[b]? = some (.map es clock) ∧ es.toList.map (fun e => (e.key, e.val)) = m.map fun p => (key p.1, p.2)
    st := fun {fp sp w w'} h ⟨h1, h2, es, c, h3, h4⟩ => ⟨h1, h2, es, c, by rw [h b (by rw [h1]; simp)]; exact h3, h4⟩
    lt := fun {fp sp w} ⟨h1, h2, es, c, h3, h4⟩ x hx => by
      rw [h1, h2] at hx; simp at hx; subst hx; exact heap_lt h3 }
def look {κ : Type} [DecidableEq κ] : List (κ × Value) → κ → Option Value
  | [], _ => none
  | (a, x) :: m, k => if k = a then some x else look m k
def put {κ : Type} [DecidableEq κ] : List (κ × Value) → κ → Value → List (κ × Value)
  | [], k, v => [(k, v)]
  | (a, x) :: m, k, v => if k = a then (a, v) :: m else (a, x) :: put m k v
theorem look_put {κ : Type} [DecidableEq κ] (m : List (κ × Value)) (k : κ) (v : Value) (k' : κ) : look (put m k v) k' = if k' = k then some v else look m k' := by
  induction m with
  | nil => simp [put, look]
  | cons p m ih =>
    obtain ⟨a, x⟩ := p
    simp only [put]
    split
    · subst a; simp only [look]; split <;> simp_all
    · simp only [look, ih]
      by_cases h1 : k' = a <;> by_cases h2 : k' = k <;> simp_all
/-- a type of keys, and how they lie -/
class KeyK (P : Program) (t : Nat) {κ : Type} [DecidableEq κ] (key : κ → Value) : Prop where
  d : ∃ d, P.underlying t = some d ∧ ∀ a b, Instr.sameNow d (key a) (key b) = some (decide (a = b))
  c : ∀ e w a, (Instr.checkKey e 10000 t (key a)).run P w = .ok () w
  s : ∀ a, Instr.sameBits 10000 (key a) (key a) = true
instance {P : Program} {t : Nat} [h : StrT P t] : KeyK P t str where
  d := ⟨_, h.h, fun a b => by
    show some ((⟨a.toArray⟩ : ByteArray) == ⟨b.toArray⟩) = _
    rw [beq_toListBytes, beq_dec]; simp⟩
  c := fun e w a => by
    show (Instr.checkKey e (9999 + 1) t _).run P w = _
    unfold Instr.checkKey
    simp only [Sem.run_bind, und_run h.h, Result.andThen_ok]; rfl
  s := fun a => by
    show Instr.sameBits (9999 + 1) (.string _) (.string _) = true
    unfold Instr.sameBits
    rw [beq_toListBytes, beq_dec]; simp
instance {P : Program} {t : Nat} {kk : IntKind} [h : IntT P t kk] : KeyK P t (Value.int kk) where
  d := ⟨_, h.h, fun a b => by simp [Instr.sameNow, beq_dec]⟩
  c := fun e w a => by
    show (Instr.checkKey e (9999 + 1) t _).run P w = _
    unfold Instr.checkKey
    simp only [Sem.run_bind, und_run h.h, Result.andThen_ok]; rfl
  s := fun a => by
    show Instr.sameBits (9999 + 1) (.int kk a) (.int kk a) = true
    unfold Instr.sameBits
    simp
class ZV (P : Program) (t : Nat) (z : outParam Value) : Prop where
  h : (P.info? t).bind (·.zero) = some z
theorem ZV.run {P : Program} {t : Nat} {z : Value} (h : ZV P t z) (w : World) : (zeroValue t).run P w = .ok z w := by
  have := h.h
  cases hi : P.info? t with
  | none => rw [hi] at this; cases this
  | some i =>
    rw [hi] at this
    simp only [Option.bind_some] at this
    simp [zeroValue, typeInfo, hi, this]

section
variable {P : Program} {w0 w w' : World} {F : Fp} {L L' L2 : List (Nat × Ent)} {b : Nat} {t kt et : Nat} {v z : Value} {K : Value → Prop} {K2 : Value → World → Prop} {KW : World → Prop} {κ : Type} [DecidableEq κ] {key : κ → Value} {m : List (κ × Value)} {k : κ}

theorem findNow_map (hk : KeyK P kt key) {d : TypeDesc} (hd : P.underlying kt = some d) : ∀ (es : List MapEntry) (m : List (κ × Value)) (i : Nat), es.map (fun e => (e.key, e.val)) = m.map (fun p => (key p.1, p.2)) →
    (look m k = none ∧ Instr.findNow d (key k) es i = some none ∧ put m k v = m ++ [(k, v)]) ∨
    (∃ j u e, look m k = some u ∧ Instr.findNow d (key k) es i = some (some (i + j, u)) ∧ es[j]? = some e ∧ e.key = key k ∧
      (es.modify j fun e => { e with key := key k, val := v }).map (fun e => (e.key, e.val)) = (put m k v).map (fun p => (key p.1, p.2)))
  | [], m, i, h => by
    have : m = [] := by simpa using h.symm
    subst this
    exact .inl ⟨rfl, rfl, rfl⟩
  | e :: es, [], i, h => by simp at h
  | e :: es, (a, x) :: m, i, h => by
    obtain ⟨d', hd', hs⟩ := hk.d
    obtain rfl : d = d' := Option.some.inj (hd.symm.trans hd')
    simp only [List.map_cons, List.cons.injEq, Prod.mk.injEq] at h
    obtain ⟨⟨h1, h2⟩, h3⟩ := h
    by_cases he : k = a
    · subst he
      refine .inr ⟨0, x, e, by simp [look], ?_, by simp, h1, ?_⟩
      · simp only [Instr.findNow, h1, hs, decide_true, h2, Nat.add_zero]
      · simp [put, h3]
    · rcases findNow_map hk hd es m (i + 1) h3 with ⟨g1, g2, g3⟩ | ⟨j, u, e', g1, g2, g3, g4, g5⟩
      · refine .inl ⟨by simp [look, he, g1], ?_, by simp [put, he, g3]⟩
        simp only [Instr.findNow, h1, hs, he, decide_false, g2]
      · refine .inr ⟨j + 1, u, e', by simp [look, he, g1], ?_, by simpa using g3, g4, ?_⟩
        · simp only [Instr.findNow, h1, hs, he, decide_false, g2]
          congr 3; omega
        · simp [put, he, g5, h1, h2]

theorem At.map (h : At w0 F w L) (r : Rm L b (mapE key m) L') : ∃ es clock, w.heap[b]? = some (.map es clock) ∧ es.toList.map (fun e => (e.key, e.val)) = m.map fun p => (key p.1, p.2) := by
  obtain ⟨f, s, hx, _⟩ := h.one r
  exact hx.2.2
instance [h : At w0 F w L] [r : Rm L b (mapE key m) L'] [ht : MapT P t kt et] [hk : KeyK P kt key] [hz : ZV P et z] :
    Step (rd P (Instr.lookup t (.map (some b)) (key k) true) w K) ((∀ v, look m k = some v → K (.tuple #[v, .bool true])) ∧ (look m k = none → K (.tuple #[z, .bool false]))) :=
  ⟨fun hh => by
    obtain ⟨es, c, h1, h2⟩ := h.map r
    obtain ⟨d, hd, _⟩ := hk.d
    have hobj : (getObj b).run P w = .ok (.map es c) w := by simp [getObj, Sem.run, h1]
    rcases findNow_map (v := z) (k := k) hk hd es.toList m 0 h2 with ⟨g1, g2, _⟩ | ⟨j, u, e, g1, g2, _⟩
    · refine ⟨_, ?_, hh.2 g1⟩
      simp only [rdV, Instr.lookup, Sem.run_bind, und_run ht.h, Result.andThen_ok, hobj, Sem.run_pure, hk.c, Instr.findKey, und_run hd, g2, hz.run]
      rfl
    · refine ⟨_, ?_, hh.1 u g1⟩
      simp only [rdV, Instr.lookup, Sem.run_bind, und_run ht.h, Result.andThen_ok, hobj, Sem.run_pure, hk.c, Instr.findKey, und_run hd, g2]
      rfl⟩
class LkSome (m : List (κ × Value)) (k : κ) (v : outParam Value) : Prop where
  h : look m k = some v
class LkNone (m : List (κ × Value)) (k : κ) : Prop where
  h : look m k = none
instance (priority := high) [h : At w0 F w L] [r : Rm L b (mapE key m) L'] [ht : MapT P t kt et] [hk : KeyK P kt key] [hz : ZV P et z] [hl : LkSome m k v] :
    Step (rd P (Instr.lookup t (.map (some b)) (key k) true) w K) (K (.tuple #[v, .bool true])) :=
  ⟨fun hh => Step.out ⟨fun u hu => (by rw [hl.h] at hu; cases hu; exact hh), fun hu => (by rw [hl.h] at hu; cases hu)⟩⟩
instance (priority := high) [h : At w0 F w L] [r : Rm L b (mapE key m) L'] [ht : MapT P t kt et] [hk : KeyK P kt key] [hz : ZV P et z] [hl : LkNone m k] :
    Step (rd P (Instr.lookup t (.map (some b)) (key k) true) w K) (K (.tuple #[z, .bool false])) :=
  ⟨fun hh => Step.out ⟨fun u hu => (by rw [hl.h] at hu; cases hu), fun hu => hh⟩⟩
instance [h : At w0 F w L] : Step (ef P (Instr.makeMap t none) w K2) (∀ b w', (∀ {κ : Type} (key : κ → Value), At w0 F w' ((b, mapE key []) :: L)) → K2 (.map (some b)) w') :=
  ⟨fun hk => ⟨_, _, by simp only [Instr.makeMap, Sem.run_bind, run_newObj, Result.andThen_ok, Sem.run_pure]; rfl, hk _ _ fun key => h.laid ⟨rfl, rfl, #[], 0, psh_new _ _, by simp⟩ (ext_alloc _ _)⟩⟩
theorem ext_setObj (w : World) (b : Nat) (o : Obj) : Ext w [b] { w with heap := w.heap.setIfInBounds b o } :=
  ⟨by simp, fun c _ hcf => by
    have hne : b ≠ c := by rintro rfl; simp at hcf
    simp [Array.getElem?_setIfInBounds, hne], rfl, rfl, rfl⟩
instance [h : At w0 F w L] [r : Rm L b (mapE key m) L'] [ht : MapT P t kt et] [hk : KeyK P kt key] :
    Step (efU P (Instr.mapUpdate t (.map (some b)) (key k) v) w KW) (∀ w', At w0 F w' ((b, mapE key (put m k v)) :: L') → KW w') :=
  ⟨fun hh => by
    obtain ⟨es, c, h1, h2⟩ := h.map r
    obtain ⟨d, hd, _⟩ := hk.d
    have hobj : (getObj b).run P w = .ok (.map es c) w := by simp [getObj, Sem.run, h1]
    have hlt := heap_lt h1
    rcases findNow_map (v := v) (k := k) hk hd es.toList m 0 h2 with ⟨g1, g2, g3⟩ | ⟨j, u, e, g1, g2, g3, g4, g5⟩
    · refine ⟨{ w with heap := w.heap.setIfInBounds b (.map (es.push { key := key k, val := v, born := c }) (c + 1)) }, ?_, hh _ (h.turn r (fun f s hx => ⟨hx.1, hx.2.1⟩) ⟨rfl, rfl, es.push { key := key k, val := v, born := c }, c + 1, ?_, ?_⟩ (ext_setObj _ _ _))⟩
      · simp only [Instr.mapUpdate, Sem.run_bind, und_run ht.h, Result.andThen_ok, hobj, hk.c, Instr.findKey, und_run hd, g2, Sem.run_pure]
        simp [setObj, Sem.run, h1]
      · simp [hlt]
      · simp [h2, g3]
    · have hkey : ((es[0 + j]?).map (·.key)).getD (key k) = key k := by
        have : es[j]? = some e := by simpa using g3
        simp [this, g4]
      refine ⟨{ w with heap := w.heap.setIfInBounds b (.map (es.modify (0 + j) fun e => { e with key := key k, val := v }) c) }, ?_, hh _ (h.turn r (fun f s hx => ⟨hx.1, hx.2.1⟩) ⟨rfl, rfl, es.modify (0 + j) fun e => { e with key := key k, val := v }, c, ?_, ?_⟩ (ext_setObj _ _ _))⟩
      · simp only [Instr.mapUpdate, Sem.run_bind, und_run ht.h, Result.andThen_ok, hobj, hk.c, Instr.findKey, und_run hd, g2, Sem.run_pure, hkey, Instr.keyThatStays, hk.s, if_true]
        simp [setObj, Sem.run, h1]
      · simp [hlt]
      · rw [← g5]; simp⟩
end
end Np
namespace Np
open Go
set_option linter.all false
section
variable {P : Program} {w0 w w' : World} {F : Fp} {L L' L2 : List (Nat × Ent)} {b o : Nat} {t t2 tx ty te E : Nat} {v z : Value} {K : Value → Prop} {K2 : Value → World → Prop} {KW : World → Prop} {x y : List UInt8} {fx fy : Bool}
theorem toList_mk (l : List UInt8) : (⟨l.toArray⟩ : ByteArray).toList = l := by rw [ByteArray.toList_eq]
instance : Step (pu P (bin .lss t fx fy (str x) (str y)) K) (K (.bool (Op.bytesLess x y))) :=
  pu_of fun w => by simp [bin, eqF_str, binOp, Op.stringOp, toList_mk]
instance : Step (pu P (bin .gtr t fx fy (str x) (str y)) K) (K (.bool (!(Op.bytesLess x y || dec (x = y))))) :=
  pu_of fun w => by simp [bin, eqF_str, binOp, Op.stringOp, toList_mk, dec_eq, beq_dec]

theorem At.slLen {n size : Nat} {xs : List Value} (h : At w0 F w L) (r : HasS L v n xs size) : xs.length = n * size := by
  obtain ⟨s, hx⟩ := h.sl r; exact hx.2.1
class HasBody (P : Program) (g : Nat) : Prop where
  h : bodyless P g = false
instance {g : Nat} {first cap args fa all : List Value} [h : HasBody P g] [a1 : App first args fa] [a2 : App fa cap all] : Step (callV P (.func (.func g) first.toArray cap.toArray) args w K2) (Gv P g all.toArray w K2) := ⟨fun hk => by
  simp only [callV, h.h, cond_false, a1.h, a2.h]; exact hk⟩
/-! contracts, and what they give at a call -/
/-- f, where A is held, comes to a value and to what is held behind it, as φ says -/
def Ct (P : Program) (f : Nat) (args : Array Value) (A : List (Nat × Ent)) (φ : Value → List (Nat × Ent) → Prop) : Prop :=
  ∀ w0 F w, At w0 F w A → Gv P f args w fun v w' => ∃ B, φ v B ∧ At w0 F w' B
theorem Ct.call {f : Nat} {args : Array Value} {A R : List (Nat × Ent)} {φ : Value → List (Nat × Ent) → Prop} (hc : Ct P f args A φ) (hp : L.Perm (A ++ R)) (h : At w0 F w L)
    (hk : ∀ v B w', φ v B → At w0 F w' (B ++ R) → K2 v w') : Gv P f args w K2 := by
  obtain ⟨f', h1, h2⟩ := h.frame hp
  refine (hc w f' w h1).mono fun v w' ⟨B, hv, hB⟩ => hk v B w' hv (h2 w' B hB)
/-- on one resource: the value, the resource behind -/
def C1 (P : Program) (f : Nat) (args : Array Value) (b : Nat) (X : Ent) (φ : Value → Ent → Prop) : Prop :=
  ∀ w0 F w, At w0 F w [(b, X)] → Gv P f args w fun v w' => ∃ Y, φ v Y ∧ At w0 F w' [(b, Y)]
theorem C1.call {f : Nat} {args : Array Value} {X : Ent} {φ : Value → Ent → Prop} (hc : C1 P f args b X φ) (h : At w0 F w L) (r : Rm L b X L')
    (hk : ∀ v Y w', φ v Y → At w0 F w' ((b, Y) :: L') → K2 v w') : Gv P f args w K2 :=
  Ct.call (A := [(b, X)]) (φ := fun v B => ∃ Y, φ v Y ∧ B = [(b, Y)]) (fun w0 F w h => (hc w0 F w h).mono fun v w' ⟨Y, h1, h2⟩ => ⟨_, ⟨Y, h1, rfl⟩, h2⟩) r.perm h
    fun v B w' ⟨Y, h1, h2⟩ h3 => hk v Y w' h1 (by rw [h2] at h3; exact h3)
/-- reads a slice only, and leaves nothing -/
theorem Ct.readS {f : Nat} {args : Array Value} {n size : Nat} {xs : List Value} {φ : Value → Prop} (hc : Ct P f args [(0, sl v n xs size)] fun u B => φ u ∧ B = []) (h : At w0 F w L) (r : HasS L v n xs size)
    (hk : ∀ u w', φ u → At w0 F w' L → K2 u w') : Gv P f args w K2 :=
  Ct.call hc (List.Perm.refl _) (h.dupS r) fun u B w' ⟨h1, h2⟩ h3 => hk u w' h1 (by rw [h2] at h3; exact h3)
/-- rests on nothing -/
theorem Ct.call0 {f : Nat} {args : Array Value} {φ : Value → List (Nat × Ent) → Prop} (hc : Ct P f args [] φ) (h : At w0 F w L)
    (hk : ∀ v B w', φ v B → At w0 F w' (B ++ L) → K2 v w') : Gv P f args w K2 := Ct.call (A := []) hc (List.Perm.refl _) h hk

/-- the same resources in another order -/
class PermC (L M : List (Nat × Ent)) : Prop where
  h : L.Perm M
instance (priority := low) : PermC L L := ⟨List.Perm.refl _⟩
instance {M : List (Nat × Ent)} {X : Ent} [r : Rm L b X L'] [p : PermC L' M] : PermC L ((b, X) :: M) := ⟨r.perm.trans (p.h.cons _)⟩
theorem At.pm {M : List (Nat × Ent)} (h : At w0 F w L) [p : PermC L M] : At w0 F w M := h.perm p.h
/-- by their blocks, in the order that is named -/
class PermK (L : List (Nat × Ent)) (ks : List Nat) (M : outParam (List (Nat × Ent))) : Prop where
  h : L.Perm M
instance : PermK L [] L := ⟨List.Perm.refl _⟩
instance {ks : List Nat} {M : List (Nat × Ent)} {X : Ent} [r : Rm L b X L'] [p : PermK L' ks M] : PermK L (b :: ks) ((b, X) :: M) := ⟨r.perm.trans (p.h.cons _)⟩
theorem At.pk (ks : List Nat) {M : List (Nat × Ent)} (h : At w0 F w L) [p : PermK L ks M] : At w0 F w M := h.perm p.h
class SubK (L : List (Nat × Ent)) (ks : List Nat) (M : outParam (List (Nat × Ent))) : Prop where
  h : ∃ R, L.Perm (M ++ R)
instance : SubK L [] [] := ⟨L, List.Perm.refl _⟩
instance {ks : List Nat} {M : List (Nat × Ent)} {X : Ent} [r : Rm L b X L'] [p : SubK L' ks M] : SubK L (b :: ks) ((b, X) :: M) := ⟨let ⟨R, h⟩ := p.h; ⟨R, r.perm.trans (h.cons _)⟩⟩
theorem At.pd (ks : List Nat) {M : List (Nat × Ent)} (h : At w0 F w L) [p : SubK L ks M] : At w0 F w M := let ⟨R, hp⟩ := p.h; At.take (h.perm hp)
/-- all but some -/
class DelK (L : List (Nat × Ent)) (ks : List Nat) (M : outParam (List (Nat × Ent))) : Prop where
  h : ∃ R, L.Perm (M ++ R)
instance : DelK L [] L := ⟨[], by simp⟩
instance {ks : List Nat} {M : List (Nat × Ent)} {X : Ent} [r : Rm L b X L'] [p : DelK L' ks M] : DelK L (b :: ks) M := ⟨let ⟨R, h⟩ := p.h; ⟨(b, X) :: R, r.perm.trans ((h.cons _).trans List.perm_middle.symm)⟩⟩
theorem At.dk (ks : List Nat) {M : List (Nat × Ent)} (h : At w0 F w L) [p : DelK L ks M] : At w0 F w M := let ⟨R, hp⟩ := p.h; At.take (h.perm hp)
/-- some of them -/
class SubC (L M : List (Nat × Ent)) : Prop where
  h : ∃ R, L.Perm (M ++ R)
instance : SubC L [] := ⟨L, List.Perm.refl _⟩
instance {M : List (Nat × Ent)} {X : Ent} [r : Rm L b X L'] [p : SubC L' M] : SubC L ((b, X) :: M) := ⟨let ⟨R, h⟩ := p.h; ⟨R, r.perm.trans (h.cons _)⟩⟩
instance (priority := low) : SubC L L := ⟨[], by simp⟩
instance (priority := 10) {M : List (Nat × Ent)} {x : Nat × Ent} [p : SubC L M] : SubC (x :: L) M := ⟨let ⟨R, h⟩ := p.h; ⟨x :: R, (h.cons x).trans (by exact List.perm_middle.symm)⟩⟩
theorem At.sb {M : List (Nat × Ent)} (h : At w0 F w L) [p : SubC L M] : At w0 F w M := let ⟨R, hp⟩ := p.h; At.take (h.perm hp)
theorem At.okey {k n E size : Nat} {xs : List Value} (h : At w0 F w ((k, own v n xs E size) :: L)) (k' : Nat) : At w0 F w ((k', own v n xs E size) :: L) := h.key k'
theorem At.skey {k n size : Nat} {xs : List Value} (h : At w0 F w ((k, Np.sl v n xs size) :: L)) (k' : Nat) : At w0 F w ((k', Np.sl v n xs size) :: L) := h.key k'
theorem At.ownNil (h : At w0 F w L) (E size : Nat) : At w0 F w ((0, own (.slice none 0 0) 0 [] E size) :: L) :=
  At.work0 (B := [(0, own (.slice none 0 0) 0 [] E size)]) h
    ⟨[], [], ⟨[], [], [], [], rfl, rfl, ⟨rfl, rfl, World.ownsRow_nil _ _ _ _⟩, rfl, rfl⟩, List.nodup_nil, (fun _ h => by cases h), (fun _ h => by cases h), (fun _ h => by cases h), Ext.refl _ _⟩
theorem At.ownTake {k n m g cap E size : Nat} {xs : List Value} (h : At w0 F w ((k, own (.slice (some ⟨g, 0, none⟩) n cap) n xs E size) :: L)) (hm : m ≤ n) :
    At w0 F w ((k, own (.slice (some ⟨g, 0, none⟩) m cap) m (xs.take (m * size)) E size) :: L) := by
  obtain ⟨fp, sp, ⟨f, g', s, t, e1, e2, ⟨hf, hs, hl, ho⟩, hr⟩, rest⟩ := h.h
  refine ⟨fp, sp, ⟨f, g', s, t, e1, e2, ⟨by simpa [Value.ownBlock] using hf, hs, ?_, ?_⟩, hr⟩, rest⟩
  · have : m * size ≤ n * size := Nat.mul_le_mul_right _ hm
    simp; omega
  · rcases ho with ⟨h', _⟩ | ⟨g2, cap2, cur, h', hb, hg, hnc, hcm, hcs, htake⟩
    · simp at h'
    · simp only [Value.slice.injEq, Option.some.injEq, Addr.mk.injEq, and_true, true_and] at h'
      obtain ⟨rfl, rfl⟩ := h'
      have : m * size ≤ n * size := Nat.mul_le_mul_right _ hm
      exact .inr ⟨g, cap, cur, rfl, hb, hg, by omega, hcm, hcs, by rw [← htake, List.take_take, Nat.min_eq_left this]⟩
theorem At.slNil (h : At w0 F w L) (size : Nat) : At w0 F w ((0, Np.sl (.slice none 0 0) 0 [] size) :: L) := (h.ownNil 0 size).freeze
end
end Np
namespace Np
open Go
set_option linter.all false
/-! ## places in slices that are read -/
/-- p is the place of element i (of so many cells) of v, so many cells on -/
class Elt (p : Addr) (v : outParam Value) (i size off : outParam Nat) : Prop where
  h : ∃ g o n c, v = .slice (some ⟨g, o, none⟩) n c ∧ p = ⟨g, o + (i * size + off), none⟩ ∧ i < n
/-- rows of elements -/
def rows {α : Type} (f : α → List Value) (l : List α) : List Value := l.flatMap f
class RowF {α : Type} (f : α → List Value) (size : outParam Nat) : Prop where
  h : ∀ a, (f a).length = size
theorem rows_get {α : Type} [Inhabited α] {f : α → List Value} {size : Nat} (hf : RowF f size) : ∀ (l : List α) (i j : Nat), i < l.length → j < size → (rows f l)[i * size + j]? = (f (l.getD i default))[j]? := by
  intro l
  induction l with
  | nil => intro i j h; simp at h
  | cons a l ih =>
    intro i j hi hj
    have e : rows f (a :: l) = f a ++ rows f l := rfl
    have hl := hf.h a
    rw [e]
    cases i with
    | zero => simp only [Nat.zero_mul, Nat.zero_add, List.getD_cons_zero]; rw [List.getElem?_append_left (by omega)]
    | succ i =>
      rw [List.getElem?_append_right (by rw [Nat.add_mul]; omega), hl, List.getD_cons_succ, ← ih i j (by simpa using hi) hj]
      congr 1
      rw [Nat.add_mul]; omega
theorem rows_len {α : Type} {f : α → List Value} {size : Nat} (hf : RowF f size) (l : List α) : (rows f l).length = l.length * size := by
  induction l with
  | nil => simp [rows]
  | cons a l ih =>
    have e : rows f (a :: l) = f a ++ rows f l := rfl
    rw [e, List.length_append, hf.h, ih, List.length_cons, Nat.add_mul]; omega
/-- sums, reckoned -/
class AddR (a b : Nat) (c : outParam Nat) : Prop where
  h : a + b = c
instance (priority := high) {b : Nat} : AddR 0 b b := ⟨by omega⟩
instance {a : Nat} : AddR a 0 a := ⟨rfl⟩
instance {a b c : Nat} [h : AddR a b c] : AddR a (b + 1) (c + 1) := ⟨by have := h.h; omega⟩
section
variable {P : Program} {w0 w w' : World} {F : Fp} {L L' L2 : List (Nat × Ent)} {p : Addr} {i size off n E t m b : Nat} {v x : Value} {xs us : List Value} {K : Value → Prop} {K2 : Value → World → Prop} {G : Prop} {ik : IntKind} {z : Int}
instance (priority := low) eltMk [r : SlG v n] [hs : SlT P t E] [hz : SzT P E size] : Step (pu P (Instr.indexAt t v (.int ik z)) K) ((0 ≤ z ∧ z < n) ∧ ∀ p, Elt p v z.toNat size 0 → K (.pointer (some p))) :=
  ⟨fun ⟨⟨h1, h2⟩, hk⟩ => by
    rcases r.h with ⟨_, rfl⟩ | ⟨g, o, cap, rfl, _⟩
    · omega
    · refine ⟨_, fun w1 => ?_, hk ⟨g, o + (z.toNat * size + 0), none⟩ ⟨g, o, n, cap, rfl, rfl, by omega⟩⟩
      simp only [Instr.indexAt, asIntOf, Sem.run_bind, Sem.run_pure, Result.andThen_ok, und_run hs.h]
      rw [if_pos ⟨h1, h2⟩]
      simp only [Sem.run_bind, sizeOf_run (szOf_spec hz.h), Result.andThen_ok, Sem.run_pure, add_off, Nat.add_zero]⟩
instance (priority := low) eltField {fi foff fn so : Nat} [e : Elt p v i size off] [h : FieldAt P t fi foff fn] [ad : AddR off foff so] : Step (pu P (Instr.fieldAt t (.pointer (some p)) fi) K) (∀ q, Elt q v i size so → K (.pointer (some q))) :=
  ⟨fun hk => by
    obtain ⟨g, o, n, c, h1, h2, h3⟩ := e.h
    obtain ⟨fs, f, g1, g2, g3, g4⟩ := fieldOf_spec h.h
    have h5 := h.z
    have hso := ad.h
    subst hso
    refine ⟨_, fun w => ?_, hk ⟨g, o + (i * size + (off + foff)), none⟩ ⟨g, o, n, c, h1, rfl, h3⟩⟩
    have hsz := sizeOf_run g4 w
    subst h2
    simp only [Instr.fieldAt, Sem.run_bind, und_run g1, Result.andThen_ok, g2, Instr.sureAddr, Sem.run_pure, fieldPlace, hsz]
    rw [if_neg h5]
    simp only [Sem.run_pure, Result.andThen_ok, add_off, g3, Nat.add_assoc]⟩
theorem elt_cell (h : At w0 F w L) (r : HasS L v n xs size) (e : Elt p v i size off) {j : Nat} (hj : off + j < size) : w.cell? (p.add j) = xs[i * size + (off + j)]? ∧ i * size + (off + j) < xs.length := by
  obtain ⟨s, hx⟩ := h.sl r
  obtain ⟨g, o, n', c, rfl, rfl, hi⟩ := e.h
  rcases sl_n hx with ⟨h1 | ⟨a, cap, h1⟩, rfl, _⟩ | ⟨g', o', c', h1, h2, hl, hc⟩
  · simp at h1
  · simp only [Value.slice.injEq] at h1; omega
  · simp only [Value.slice.injEq, Option.some.injEq, Addr.mk.injEq, and_true] at h1
    obtain ⟨⟨rfl, rfl⟩, rfl, rfl⟩ := h1
    have hm : (i + 1) * size ≤ n' * size := Nat.mul_le_mul_right _ hi
    rw [Nat.add_mul] at hm
    have hlt : i * size + (off + j) < xs.length := by rw [hl]; omega
    rw [add_off, ← hc _ hlt]
    exact ⟨by congr 2; omega, hlt⟩
theorem add_zero' (p : Addr) : p.add 0 = p := by obtain ⟨a, b, c⟩ := p; unfold Addr.add; split <;> simp_all
theorem elt_sc (h : At w0 F w L) (r : HasS L v n xs size) (e : Elt p v i size off) (ho : off < size) (ht : ScT P t) (hx : xs[i * size + off]? = some x) : (Instr.loadAt t (.pointer (some p))).run P w = .ok x w := by
  have := (elt_cell h r e (j := 0) (by omega)).1
  rw [add_zero', Nat.add_zero, hx] at this
  exact loadAt_run _ _ (loadVar_sc ht this)
theorem elt_i (h : At w0 F w L) (r : HasS L v n xs size) (e : Elt p v i size off) : i < n := by
  obtain ⟨s, hx⟩ := h.sl r
  obtain ⟨g, o, n', c, rfl, rfl, hi⟩ := e.h
  rcases sl_n hx with ⟨h1 | ⟨a, cap, h1⟩, rfl, _⟩ | ⟨g', o', c', h1, h2, hl, hc⟩
  · simp at h1
  · simp only [Value.slice.injEq] at h1; omega
  · simp only [Value.slice.injEq] at h1
    omega
instance eltRow {α : Type} [Inhabited α] {f : α → List Value} {l : List α} [h : At w0 F w L] [r : HasS L v n (rows f l) size] [e : Elt p v i size off] [ht : ScT P t] [hf : RowF f size] [hn : Nth (f (l.getD i default)) off x] :
    Step (rd P (Instr.loadAt t (.pointer (some p))) w K) (K x) := ⟨fun hk => by
  have ho : off < size := by have := cells_lt hn.h; rw [hf.h] at this; exact this
  have hi := elt_i h r e
  have hz : 0 < size := by omega
  have hl : l.length = n := by
    have := h.slLen r
    rw [rows_len hf] at this
    exact Nat.eq_of_mul_eq_mul_right hz this
  exact ⟨_, elt_sc h r e ho ht (by rw [rows_get hf _ _ _ (by omega) ho]; exact hn.h), hk⟩⟩
instance eltRowV {α : Type} [Inhabited α] {f : α → List Value} {l : List α} [h : At w0 F w L] [r : HasS L v n (rows f l) size] [e : Elt p v i size off] [ht : ScT P t] [hf : RowF f size] [hn : Nth (f (l.getD i default)) off x] :
    Step (rdV P (Instr.loadAt t (.pointer (some p))) x w ∧ G) G := ⟨fun hk => by
  obtain ⟨v, h1, h2⟩ := (eltRow (P := P) (K := fun y => y = x) (h := h) (r := r) (e := e) (ht := ht) (hf := hf) (hn := hn)).out rfl
  exact ⟨by subst h2; exact h1, hk⟩⟩
instance eltAg {α : Type} [Inhabited α] {f : α → List Value} {l : List α} [h : At w0 F w L] [r : HasS L v n (rows f l) size] [e : Elt p v i size off] [ht : AgT P t m] [hf : RowF f size] [c : Sub (f (l.getD i default)) off m us] [lc : LeL (off + m) size] :
    Step (rd P (Instr.loadAt t (.pointer (some p))) w K) (K (.agg us.toArray)) := ⟨fun hk => by
  have ho := lc.h
  have hi := elt_i h r e
  refine ⟨_, loadAt_run _ _ (loadVar_ag ht c.h.1 fun j hj => ?_), hk⟩
  have hl : l.length = n := by
    have := h.slLen r
    rw [rows_len hf] at this
    exact Nat.eq_of_mul_eq_mul_right (by omega : 0 < size) this
  rw [(elt_cell h r e (by omega)).1, rows_get hf _ _ _ (by omega) (by omega)]
  exact c.h.2 j hj⟩
instance eltAgV {α : Type} [Inhabited α] {f : α → List Value} {l : List α} [h : At w0 F w L] [r : HasS L v n (rows f l) size] [e : Elt p v i size off] [ht : AgT P t m] [hf : RowF f size] [c : Sub (f (l.getD i default)) off m us] [lc : LeL (off + m) size] :
    Step (rdV P (Instr.loadAt t (.pointer (some p))) (.agg us.toArray) w ∧ G) G := ⟨fun hk => by
  obtain ⟨v, h1, h2⟩ := (eltAg (P := P) (K := fun y => y = .agg us.toArray) (h := h) (r := r) (e := e) (ht := ht) (hf := hf) (c := c) (lc := lc)).out rfl
  exact ⟨by subst h2; exact h1, hk⟩⟩
instance (priority := 20001) slRow {t2 : Nat} {α : Type} [Inhabited α] {f : α → List Value} {l : List α} [h : At w0 F w L] [r : HasS L v n (rows f l) size] [hs : SlT P t E] [hz : SzT P E size] [ht : AgT P t2 size] [hf : RowF f size] :
    Step (pu P (Instr.indexAt t v (.int ik z)) (fun p => rd P (Instr.loadAt t2 p) w K)) ((0 ≤ z ∧ z < n) ∧ K (.agg (f (l.getD z.toNat default)).toArray)) :=
  ⟨fun ⟨hi, hk⟩ => Step.out ⟨hi, by
    have hl := h.slLen r
    rw [rows_len hf] at hl
    by_cases h0 : size = 0
    · subst h0
      have e1 : f (l.getD z.toNat default) = [] := List.length_eq_zero_iff.1 (hf.h _)
      rw [e1] at hk
      simpa using hk
    · have hln : l.length = n := Nat.eq_of_mul_eq_mul_right (by omega) hl
      have hz2 : z.toNat < l.length := by omega
      have e : ((rows f l).drop (z.toNat * size)).take size = f (l.getD z.toNat default) := by
        apply List.ext_getElem?
        intro j
        rw [List.getElem?_take]
        split
        · rename_i hj
          rw [List.getElem?_drop, rows_get hf l _ _ hz2 hj]
        · rw [List.getElem?_eq_none (by rw [hf.h]; omega)]
      rw [e]
      exact hk⟩⟩
instance eltStr {l : List (List UInt8)} [h : At w0 F w L] [r : HasS L v n (strs l) 1] [e : Elt p v i 1 0] [ht : ScT P t] : Step (rd P (Instr.loadAt t (.pointer (some p))) w K) (K (str (l.getD i []))) := ⟨fun hk => by
  have hi := elt_i h r e
  have hl : l.length = n := by have := h.slLen r; simpa [strs] using this
  exact ⟨_, elt_sc h r e (by omega) ht (by simp [strs, List.getD_eq_getElem?_getD, show i < l.length by omega]), hk⟩⟩
instance eltStrV {l : List (List UInt8)} [h : At w0 F w L] [r : HasS L v n (strs l) 1] [e : Elt p v i 1 0] [ht : ScT P t] : Step (rdV P (Instr.loadAt t (.pointer (some p))) x w ∧ G) (x = str (l.getD i []) ∧ G) := ⟨fun ⟨hx, hk⟩ => by
  obtain ⟨v, h1, h2⟩ := (eltStr (P := P) (K := fun y => y = x) (h := h) (r := r) (e := e) (ht := ht)).out hx.symm
  exact ⟨by subst h2; exact h1, hk⟩⟩
end
end Np
