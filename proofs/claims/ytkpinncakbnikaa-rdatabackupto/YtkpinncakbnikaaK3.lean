import Derived.Test.YtkpinncakbnikaaK2
import Derived.Test.YtkpinncakbnikaaRows
import Derived.ProofKit
import Derived.OpenShut
import Derived.JoinedCond
import Derived.Below
import Derived.ChangeSame
import Derived.Carry
import Derived.Deep.Slices
namespace Go.Proofs.Ytkpinncakbnikaa
open Go Np Go.Proofs
set_option linter.all false
set_option maxRecDepth 20000
section
variable {w0 w : World} {F : Fp} {L L' : List (Nat × Ent)} {K : Value → World → Prop} {n m : Nat} {d a b : Dat} {v u : Value} {s : By} {t : Int}
theorem law_Unlike (ha : OkD a) (hb : OkD b) (h : At w0 F w [(0, sl v n (strs a.texts) 1), (1, sl u m (strs b.texts) 1)]) :
    Gv Try.prog F_nameplatelaw09_RdataUnlike #[.int .i64 t, daV a v, daV b u] w fun x w' => x = .bool true ∧ At w0 F w' [] := by
  have hsl : SlG v n := h.slG inferInstance
  have hsl2 : SlG u m := h.slG inferInstance
  have hna : n ≤ 1099511627776 := by have := h.slLen (inferInstance : HasS _ v n (strs a.texts) 1); have := ha.texts; simp [strs] at *; omega
  refine ok_nameplatelaw09_RdataUnlike ?_
  unfold T_nameplatelaw09_RdataUnlike
  repeat' (first | refine Step.out ?_ | refine And.intro (fun h => ?_) (fun h => ?_) | intro _ | refine GW.i64 (by omega) ?_ | refine GW.u32 (by omega) ?_ | refine GW.u64 (by omega) ?_ | refine GW.u8 (by omega) ?_ | refine GW.u16 (by omega) ?_ | refine And.intro rfl ?_ | refine And.intro (by assumption) ?_ | refine And.intro (by omega) ?_ | refine And.intro (by simp only [List.length_append, List.length_replicate, List.length_drop, List.length_take, List.length_cons, List.length_nil, u8s_len, be_length]; omega) ?_ | fail)
  rename_i ba w1 g1 bb w2 g2 w3 g3
  clear h g1 g2
  refine cutL (fun s w => ∃ q : Bool, s = [.int .i64 t, ptr ba, ptr bb, .bool q] ∧ At w0 F w [(bb, cells (daC b u) Y_api_Data), (ba, cells (daC a v) Y_api_Data), (0, sl v n (strs a.texts) 1), (1, sl u m (strs b.texts) 1)]) ?_ ?_
  · repeat' (first | refine Step.out ?_ | refine And.intro (fun h => ?_) (fun h => ?_) | intro _ | refine GW.i64 (by omega) ?_ | refine GW.u32 (by omega) ?_ | refine GW.u64 (by omega) ?_ | refine GW.u8 (by omega) ?_ | refine GW.u16 (by omega) ?_ | refine And.intro rfl ?_ | refine And.intro (by assumption) ?_ | refine And.intro (by omega) ?_ | refine And.intro (by simp only [List.length_append, List.length_replicate, List.length_drop, List.length_take, List.length_cons, List.length_nil, u8s_len, be_length]; omega) ?_ | fail)
    all_goals exact ⟨_, rfl, ‹_›⟩
  rintro ρ w ⟨q1, hs, hA⟩
  clear g3
  simp only [pick, List.cons.injEq, and_true] at hs
  obtain ⟨h0, h1, h2, h3⟩ := hs
  simp only [h0, h1, h2, h3]
  repeat' (first | refine Step.out ?_ | refine And.intro (fun h => ?_) (fun h => ?_) | intro _ | refine GW.i64 (by omega) ?_ | refine GW.u32 (by omega) ?_ | refine GW.u64 (by omega) ?_ | refine GW.u8 (by omega) ?_ | refine GW.u16 (by omega) ?_ | refine And.intro rfl ?_ | refine And.intro (by assumption) ?_ | refine And.intro (by omega) ?_ | refine And.intro (by simp only [List.length_append, List.length_replicate, List.length_drop, List.length_take, List.length_cons, List.length_nil, u8s_len, be_length]; omega) ?_ | fail)
  · exact ⟨trivial, At.emp hA⟩
  · exact ⟨trivial, At.emp ‹_›⟩
  · exact ⟨trivial, At.emp ‹_›⟩
  · rename_i q _ _
    have hq := ‹_ = true ↔ a = b›
    have hu := unlike ha hb (Decidable.not_not.1 ‹¬ ¬ (putD pk0 t a).2 = 0›) (Decidable.not_not.1 ‹¬ ¬ (putD pk0 t b).2 = 0›)
    refine ⟨?_, At.emp ‹_›⟩
    have e : (dec ((putD pk0 t a).1.w.s = (putD pk0 t b).1.w.s)) = _ := Bool.eq_iff_iff.2 (dec_iff.trans (hu.trans hq.symm))
    rw [e, dec_eq]; simp
theorem law_Back {y : By} (hd : OkD d) (hy : y.length ≤ 1048576) (h : At w0 F w [(0, sl v n (strs d.texts) 1)]) :
    Gv Try.prog F_nameplatelaw09_RdataBack #[.int .i64 t, daV d v, str y] w fun x w' => x = .bool true ∧ At w0 F w' [] := by
  have hsl : SlG v n := h.slG inferInstance
  have hna : n ≤ 1099511627776 := by have := h.slLen (inferInstance : HasS _ v n (strs d.texts) 1); have := hd.texts; simp [strs] at *; omega
  refine ok_nameplatelaw09_RdataBack ?_
  unfold T_nameplatelaw09_RdataBack
  repeat' (first | refine Step.out ?_ | refine And.intro (fun h => ?_) (fun h => ?_) | intro _ | refine GW.i64 (by omega) ?_ | refine GW.u32 (by omega) ?_ | refine GW.u64 (by omega) ?_ | refine GW.u8 (by omega) ?_ | refine GW.u16 (by omega) ?_ | refine And.intro rfl ?_ | refine And.intro (by assumption) ?_ | refine And.intro (by omega) ?_ | refine And.intro (by simp only [List.length_append, List.length_replicate, List.length_drop, List.length_take, List.length_cons, List.length_nil, u8s_len, be_length]; omega) ?_ | fail)
  rename_i bd w1 g1 w2 g2
  clear h g1
  refine cutL (fun s w => ∃ q : Bool, (q = false → lightN d ≤ 2000 ∧ y.length ≤ 400 ∧ chkD t d = 0) ∧ s = [.int .i64 t, str y, ptr bd, .bool q] ∧ At w0 F w [(bd, cells (daC d v) Y_api_Data), (0, sl v n (strs d.texts) 1)]) ?_ ?_
  · repeat' (first | refine Step.out ?_ | refine And.intro (fun h => ?_) (fun h => ?_) | intro _ | refine GW.i64 (by omega) ?_ | refine GW.u32 (by omega) ?_ | refine GW.u64 (by omega) ?_ | refine GW.u8 (by omega) ?_ | refine GW.u16 (by omega) ?_ | refine And.intro rfl ?_ | refine And.intro (by assumption) ?_ | refine And.intro (by omega) ?_ | refine And.intro (by simp only [List.length_append, List.length_replicate, List.length_drop, List.length_take, List.length_cons, List.length_nil, u8s_len, be_length]; omega) ?_ | fail)
    · exact ⟨_, (fun h => by cases h), rfl, ‹_›⟩
    · exact ⟨_, (fun h => by cases h), rfl, ‹_›⟩
    · refine ⟨_, (fun h => ?_), rfl, ‹_›⟩
      rw [dec_eq] at h
      refine ⟨Decidable.not_not.1 ‹¬ ¬ lightN d ≤ 2000›, by omega, ?_⟩
      simpa using h
  rintro ρ w ⟨q1, hq1, hs, hA⟩
  clear g2
  simp only [pick, List.cons.injEq, and_true] at hs
  obtain ⟨h0, h1, h2, h3⟩ := hs
  simp only [h0, h1, h2, h3]
  cases q1 with
  | true =>
    repeat' (first | refine Step.out ?_ | refine And.intro (fun h => ?_) (fun h => ?_) | intro _ | refine GW.i64 (by omega) ?_ | refine GW.u32 (by omega) ?_ | refine GW.u64 (by omega) ?_ | refine GW.u8 (by omega) ?_ | refine GW.u16 (by omega) ?_ | refine And.intro rfl ?_ | refine And.intro (by assumption) ?_ | refine And.intro (by omega) ?_ | refine And.intro (by simp only [List.length_append, List.length_replicate, List.length_drop, List.length_take, List.length_cons, List.length_nil, u8s_len, be_length]; omega) ?_ | fail)
    exact ⟨trivial, At.emp hA⟩
  | false =>
  obtain ⟨hl, hya, hc⟩ := hq1 rfl
  obtain ⟨b1, b2, b3, b4, b5⟩ := back_law (n := y) hd hc hl
  generalize hp2 : putD (pk0.name y).1 t d = p2 at b1 b2 b3 b4 b5
  obtain ⟨c1, c2, c3, c4, c5⟩ := b5
  rw [back_len] at c3 c5
  have hsl3 : (p2.1.w.s ++ [0]).length ≤ 1048000 := by simp; omega
  repeat' (first | refine Step.out ?_ | refine And.intro (fun h => ?_) (fun h => ?_) | intro _ | refine GW.i64 (by omega) ?_ | refine GW.u32 (by omega) ?_ | refine GW.u64 (by omega) ?_ | refine GW.u8 (by omega) ?_ | refine GW.u16 (by omega) ?_ | refine And.intro rfl ?_ | refine And.intro (by assumption) ?_ | refine And.intro (by omega) ?_ | refine And.intro (by simp only [List.length_append, List.length_replicate, List.length_drop, List.length_take, List.length_cons, List.length_nil, u8s_len, be_length]; omega) ?_ | fail)
  all_goals rw [hp2] at *
  · exact absurd b1 (by assumption)
  repeat' (first | refine Step.out ?_ | refine And.intro (fun h => ?_) (fun h => ?_) | intro _ | refine GW.i64 (by omega) ?_ | refine GW.u32 (by omega) ?_ | refine GW.u64 (by omega) ?_ | refine GW.u8 (by omega) ?_ | refine GW.u16 (by omega) ?_ | refine And.intro rfl ?_ | refine And.intro (by assumption) ?_ | refine And.intro (by omega) ?_ | refine And.intro (by simp only [List.length_append, List.length_replicate, List.length_drop, List.length_take, List.length_cons, List.length_nil, u8s_len, be_length]; omega) ?_ | fail)
  · omega
  have htl : (rdD (p2.1.w.s ++ [0]) (pk0.name y).1.w.s.length p2.1.w.s.length t).1.texts.length ≤ 1099511627776 := by rw [c1]; have := hd.texts; simp only; omega
  refine cutL (fun s w => s = [.int .i64 t, .int .i64 (pk0.name y).1.w.s.length, .int .i64 p2.1.w.s.length, str (p2.1.w.s ++ [0]), .bool false] ∧ At w0 F w []) ?_ ?_
  · repeat' (first | refine Step.out ?_ | refine And.intro (fun h => ?_) (fun h => ?_) | intro _ | refine GW.i64 (by omega) ?_ | refine GW.u32 (by omega) ?_ | refine GW.u64 (by omega) ?_ | refine GW.u8 (by omega) ?_ | refine GW.u16 (by omega) ?_ | refine And.intro rfl ?_ | refine And.intro (by assumption) ?_ | refine And.intro (by omega) ?_ | refine And.intro (by simp only [List.length_append, List.length_replicate, List.length_drop, List.length_take, List.length_cons, List.length_nil, u8s_len, be_length]; omega) ?_ | fail)
    · exact absurd (congrArg Prod.snd c1) (by assumption)
    · have hq := ‹_ = true ↔ (rdD _ _ _ _).1 = d›
      have hqt := hq.2 (congrArg Prod.fst c1)
      exact ⟨by rw [hqt]; rfl, At.emp ‹_›⟩
  rintro ρ w ⟨hs, hA⟩
  simp only [pick, List.cons.injEq, and_true] at hs
  obtain ⟨h0, h1, h2, h3, h4⟩ := hs
  simp only [h0, h1, h2, h3, h4]
  repeat' (first | refine Step.out ?_ | refine And.intro (fun h => ?_) (fun h => ?_) | intro _ | refine GW.i64 (by omega) ?_ | refine GW.u32 (by omega) ?_ | refine GW.u64 (by omega) ?_ | refine GW.u8 (by omega) ?_ | refine GW.u16 (by omega) ?_ | refine And.intro rfl ?_ | refine And.intro (by assumption) ?_ | refine And.intro (by omega) ?_ | refine And.intro (by simp only [List.length_append, List.length_replicate, List.length_drop, List.length_take, List.length_cons, List.length_nil, u8s_len, be_length]; omega) ?_ | fail)
  clear hA
  generalize hf : (rdD (p2.1.w.s ++ [0]) (pk0.name y).1.w.s.length ((p2.1.w.s.length : Int) + 1) t).2 = f
  refine cutL (fun s w => ∃ q : Bool, (q = true ↔ (whatOf t).raw = true) ∧ s = [.int .i64 t, .int .i64 (pk0.name y).1.w.s.length, .int .i64 p2.1.w.s.length, str (p2.1.w.s ++ [0]), .int .i64 f, .bool q] ∧ At w0 F w []) ?_ ?_
  · have hkr := known_raw (t := t)
    repeat' (first | refine Step.out ?_ | refine And.intro (fun h => ?_) (fun h => ?_) | intro _ | refine GW.i64 (by omega) ?_ | refine GW.u32 (by omega) ?_ | refine GW.u64 (by omega) ?_ | refine GW.u8 (by omega) ?_ | refine GW.u16 (by omega) ?_ | refine And.intro rfl ?_ | refine And.intro (by assumption) ?_ | refine And.intro (by omega) ?_ | refine And.intro (by simp only [List.length_append, List.length_replicate, List.length_drop, List.length_take, List.length_cons, List.length_nil, u8s_len, be_length]; omega) ?_ | fail)
    · exact ⟨true, ⟨fun _ => hkr.1 (.inl (by simpa using ‹¬ knownT t = true›)), fun _ => rfl⟩, rfl, At.emp ‹_›⟩
    · refine ⟨_, ?_, rfl, At.emp ‹_›⟩
      rw [dec_iff, ← hkr]
      have := Decidable.not_not.1 ‹¬ ¬ knownT t = true›
      simp [this]
  rintro ρ w ⟨q, hq, hs, hA⟩
  simp only [pick, List.cons.injEq, and_true] at hs
  obtain ⟨h0, h1, h2, h3, h4, h5⟩ := hs
  simp only [h0, h1, h2, h3, h4, h5]
  refine cutL (fun s w => s = [.int .i64 t, .int .i64 (pk0.name y).1.w.s.length, .int .i64 p2.1.w.s.length, str (p2.1.w.s ++ [0]), .int .i64 f, .bool q, .bool false] ∧ At w0 F w []) ?_ ?_
  · have hnr : ¬ q = true → (whatOf t).raw = false := fun h => by simpa using fun h2 => h (hq.2 h2)
    repeat' (first | refine Step.out ?_ | refine And.intro (fun h => ?_) (fun h => ?_) | intro _ | refine GW.i64 (by omega) ?_ | refine GW.u32 (by omega) ?_ | refine GW.u64 (by omega) ?_ | refine GW.u8 (by omega) ?_ | refine GW.u16 (by omega) ?_ | refine And.intro rfl ?_ | refine And.intro (by assumption) ?_ | refine And.intro (by omega) ?_ | refine And.intro (by simp only [List.length_append, List.length_replicate, List.length_drop, List.length_take, List.length_cons, List.length_nil, u8s_len, be_length]; omega) ?_ | fail)
    · have hf4 : f = 4 := by
        rw [← hf, c3 (hnr (by assumption)) (texts_16 (by assumption)) (Nat.le_refl _)]
      exact ⟨by rw [hf4, dec_eq]; rfl, At.emp ‹_›⟩
    · first | exact At.emp ‹_› | exact ⟨by rfl, At.emp ‹_›⟩
    · first | exact At.emp ‹_› | exact ⟨by rfl, At.emp ‹_›⟩
  rintro ρ w ⟨hs, hA⟩
  simp only [pick, List.cons.injEq, and_true] at hs
  obtain ⟨h0, h1, h2, h3, h4, h5, h6⟩ := hs
  simp only [h0, h1, h2, h3, h4, h5, h6]
  have hf0 : (whatOf t).raw = true → f = 0 := fun h => by rw [← hf]; exact c5 h (Nat.le_refl _) (by omega)
  repeat' (first | refine Step.out ?_ | refine And.intro (fun h => ?_) (fun h => ?_) | intro _ | refine GW.i64 (by omega) ?_ | refine GW.u32 (by omega) ?_ | refine GW.u64 (by omega) ?_ | refine GW.u8 (by omega) ?_ | refine GW.u16 (by omega) ?_ | refine And.intro rfl ?_ | refine And.intro (by assumption) ?_ | refine And.intro (by omega) ?_ | refine And.intro (by simp only [List.length_append, List.length_replicate, List.length_drop, List.length_take, List.length_cons, List.length_nil, u8s_len, be_length]; omega) ?_ | fail)
  · have hr : (whatOf t).raw = true := by
      cases hr : (whatOf t).raw with
      | true => rfl
      | false => have := c2 hr; omega
    exact ⟨by rw [hf0 hr, dec_eq]; rfl, At.emp ‹_›⟩
  · exact ⟨by rw [hf0 (hq.1 (by assumption)), dec_eq]; rfl, At.emp ‹_›⟩
  · exact ⟨trivial, At.emp ‹_›⟩
  · have hnr : (whatOf t).raw = false := by simpa using fun h2 => (show ¬ q = true by assumption) (hq.2 h2)
    have := c4 hnr (texts_16 (by assumption))
    exact ⟨by rw [dec_eq]; simp [this], At.emp ‹_›⟩
end
end Go.Proofs.Ytkpinncakbnikaa
namespace Go.Proofs.Ytkpinncakbnikaa
open Go Np Go.Proofs Go.ChangeShapes Go.WideShapes Go.ChangeAt Go.RowKit Go.Deep
set_option linter.all false
set_option maxRecDepth 20000
section
variable {H : Type} {enc : TypeId × Value → H} {P : Program}
/-- the row's last step, where of old memory nothing has turned -/
theorem post_of_below {f : Func} {s : ChangeSpec} {apart fresh handsOn again : Bool} {W W' : World} {args : Array Value} {v : Value} {ds gs : List (DataW H)} {before pa pv : List MemPlace}
    (hW : DataW.Whole enc P f.params.toList s.vars apart W args.toList ds gs before)
    (hres : ∀ (b : Nat) (sp : Nat → Bool) (hd : Bool), DataW.TrodAll enc P W' b sp hd f.resultTypes.toList (v.resultList f.resultTypes.size) (s.fn H (ds ++ gs)).results [])
    (hargs : ∀ sp : Nat → Bool, (∀ p ∈ before, sp p.block = true) → DataW.TrodAll enc P W' 0 sp true f.params.toList args.toList (s.fn H (ds ++ gs)).args pa)
    (hvars : ∀ sp : Nat → Bool, (∀ p ∈ before, sp p.block = true) → DataW.TrodVars enc P W' sp s.vars (s.fn H (ds ++ gs)).vars pv)
    (hps : before = pa ++ pv) (hb : Below W.heap.size W W')
    (hok : ∀ (j : Nat) (t : TypeId) (r : Value), f.resultTypes[j]? = some t → (v.resultList f.resultTypes.size)[j]? = some r → Value.okWide P W' .any 0 t r) :
    s.post enc P f apart fresh handsOn again W args v W' := by
  have hlt : ∀ p ∈ before, p.block < W.heap.size := fun p hp => hW.lt p hp
  have hold : ∀ p ∈ before, (fun b => decide (b < W.heap.size)) p.block = true := fun p hp => by simpa using hlt p hp
  refine ⟨ds, gs, before, [], pa, pv, hW, hres _ _ _, hargs _ hold, hvars _ hold, World.keptBut_mono (fun p hp => ⟨hp, ?_⟩) (hb.frame (· ∈ before)), fun _ => ?_⟩
  · rw [hps, List.mem_append] at hp
    exact Or.inr hp
  · obtain ⟨_, _, _, _, _, hz, hn⟩ := hW
    refine ⟨hok, _, _, ([] ++ pa) ++ pv, ⟨[] ++ pa, pv, trodAll_append (hargs _ (fun _ _ => rfl)) (hres _ _ _), hvars _ (fun _ _ => rfl), rfl, ?_, ?_⟩, ?_⟩
    · intro b off hp
      have hin : MemPlace.cell b off ∈ before := by rw [hps]; simpa using hp
      rw [hb.frozen (hlt _ hin)]
      exact hz b off hin
    · intro ha
      have := hn ha
      rw [hps] at this
      simpa using this
    · intro p hp _
      rw [hps]
      simpa using hp
end
/-! ## arguments, opened -/
/-- a slice that is read stands in a world -/
def SlOk (w : World) (v : Value) (n : Nat) (xs : List Value) (size : Nat) : Prop := ∃ s, (sl v n xs size 0).ok [] s w
theorem At.addS {w : World} {sp : List Nat} {L : List (Nat × Ent)} {v : Value} {n size : Nat} {xs : List Value} (k : Nat) (hA : At w ⟨[], sp⟩ w L) (h : SlOk w v n xs size) : ∃ sp', At w ⟨[], sp'⟩ w ((k, sl v n xs size) :: L) := by
  obtain ⟨s, hs⟩ := h
  obtain ⟨fp, sp1, h1, h2, h3, h4, h5, h6⟩ := hA.h
  have hf : fp = [] := by
    cases fp with
    | nil => rfl
    | cons b fp =>
      have hb := h4 b (by simp)
      have := h1.lt b (.inl (by simp))
      simp at hb; omega
  subst hf
  refine ⟨s ++ sp1, ⟨[], s ++ sp1, ⟨[], [], s, sp1, rfl, rfl, hs, h1⟩, List.nodup_nil, (fun _ h => by cases h), (fun _ h => by cases h), fun b hb => .inl hb, h6⟩⟩
theorem At.init' (w : World) : At w ⟨[], []⟩ w [] := ⟨[], [], ⟨rfl, rfl⟩, List.nodup_nil, (fun b h => by cases h), (fun b h => by cases h), (fun b h => by cases h), Ext.refl _ _⟩
theorem At.below {w w' : World} {sp : List Nat} {L : List (Nat × Ent)} (h : At w ⟨[], sp⟩ w' L) : Below w.heap.size w w' := by
  have e := h.ext
  exact ⟨e.os, e.tape, e.out, e.size, fun k hk => e.keep k hk (by simp)⟩
section
variable {H : Type} {enc : TypeId × Value → H} {w : World} {base : Nat} {sp : Nat → Bool} {held : Bool} {fuel : Nat} {t : TypeId} {cs : List Value} {x : DataW H × List MemPlace}
abbrev UB {H : Type} (x : DataW H × List MemPlace) : Nat := Rows.uptoBulk x.1
theorem part_le {d : DataW H} {l : List (DataW H)} (h : d ∈ l) : Rows.uptoBulk d ≤ Rows.uptoBulkAll l := by
  induction l with
  | nil => cases h
  | cons x r ih =>
    simp only [Rows.uptoBulkAll]
    cases List.mem_cons.1 h with
    | inl e => subst e; omega
    | inr e => have := ih e; omega
theorem bulkAll_sum (l : List (DataW H)) : Rows.uptoBulkAll l = (l.map Rows.uptoBulk).sum := by
  induction l with
  | nil => simp [Rows.uptoBulkAll]
  | cons x l ih => simp [Rows.uptoBulkAll, ih]
theorem opn_str [h : StrT Try.prog t] (hx : DataW.trod enc Try.prog w base sp held fuel t cs = some x) : ∃ l : By, cs = [str l] ∧ l.length + 1 ≤ UB x := by
  obtain ⟨s, rfl, rfl, _⟩ := DataW.trod_string h.h hx
  obtain ⟨d⟩ := s
  exact ⟨d.toList, by simp [str], by simp [UB, Rows.uptoBulk]⟩
theorem opn_bool [h : BoolT Try.prog t] (hx : DataW.trod enc Try.prog w base sp held fuel t cs = some x) : ∃ b : Bool, cs = [.bool b] := by
  obtain ⟨b, rfl, _⟩ := DataW.trod_bool h.h hx
  exact ⟨b, rfl⟩
theorem opn_int {k : IntKind} [h : IntT Try.prog t k] (hx : DataW.trod enc Try.prog w base sp held fuel t cs = some x) : ∃ n : Int, cs = [.int k n] ∧ k.min ≤ n ∧ n ≤ k.max := by
  obtain ⟨n, rfl, _, hw⟩ := DataW.trod_int h.h hx
  simp only [Lit.wf, Bool.and_eq_true, decide_eq_true_eq] at hw
  exact ⟨n, rfl, hw⟩
theorem opn_nat {k : IntKind} [h : IntT Try.prog t k] (hk : k.min = 0) (hx : DataW.trod enc Try.prog w base sp held fuel t cs = some x) : ∃ n : Nat, cs = [.int k n] ∧ (n : Int) ≤ k.max := by
  obtain ⟨n, rfl, h1, h2⟩ := opn_int hx
  obtain ⟨m, rfl⟩ : ∃ m : Nat, n = m := ⟨n.toNat, by omega⟩
  exact ⟨m, rfl, h2⟩
/-- a struct's field: its type, its place, how many cells -/
def fTy (P : Program) (t i : Nat) : Option (Nat × Nat × Nat) :=
  match P.underlying t with
  | some (.struct fs) => (fs[i]?).map fun f => (f.type, f.offset, P.cellsOf f.type)
  | some (.array n e) => if i < n then some (e, i * P.cellsOf e, P.cellsOf e) else none
  | _ => none
theorem opn_field {i ft off n : Nat} (hf : fTy Try.prog t i = some (ft, off, n)) (hx : DataW.trod enc Try.prog w base sp held fuel t cs = some x) :
    cs.length = Try.prog.cellsOf t ∧ ∃ m y, DataW.trod enc Try.prog w base sp held m ft ((cs.drop off).take n) = some y ∧ UB y + 1 ≤ UB x := by
  unfold fTy at hf
  split at hf
  · rename_i fs hu
    obtain ⟨xs, m, _, rfl, hl, hlen, hall⟩ := DataW.trod_struct hu hx
    cases hfi : fs[i]? with
    | none => rw [hfi] at hf; cases hf
    | some f =>
      rw [hfi] at hf
      simp only [Option.map_some, Option.some.injEq, Prod.mk.injEq] at hf
      obtain ⟨rfl, rfl, rfl⟩ := hf
      have h1 := hall i f hfi
      have hi : i < xs.length := by rw [hlen]; exact (Array.getElem?_eq_some_iff.1 hfi).1
      rw [List.getElem?_eq_getElem hi] at h1
      refine ⟨hl, m, _, h1, ?_⟩
      have := part_le (d := (xs[i]).1) (l := xs.map (·.1)) (List.mem_map_of_mem (List.getElem_mem hi))
      simp only [UB, Rows.uptoBulk]
      omega
  · rename_i k e hu
    split at hf
    · rename_i hik
      simp only [Option.some.injEq, Prod.mk.injEq] at hf
      obtain ⟨rfl, rfl, rfl⟩ := hf
      obtain ⟨xs, m, _, rfl, hl, hlen, hall⟩ := DataW.trod_array hu hx
      have h1 := hall i hik
      have hi : i < xs.length := by omega
      rw [List.getElem?_eq_getElem hi] at h1
      refine ⟨hl, m, _, h1, ?_⟩
      have := part_le (d := (xs[i]).1) (l := xs.map (·.1)) (List.mem_map_of_mem (List.getElem_mem hi))
      simp only [UB, Rows.uptoBulk]
      omega
    · cases hf
  · cases hf
theorem add_add (a : Addr) (i j : Nat) : (a.add i).add j = a.add (i + j) := by
  unfold Addr.add
  by_cases hi : i = 0 <;> by_cases hj : j = 0 <;> simp [hi, hj, Nat.add_assoc]
/-- elements that can be opened -/
def Opn (e : TypeId) {α : Type} (f : α → List Value) (Q : World → α → Prop) (β : α → Nat) : Prop :=
  ∀ {H : Type} {enc : TypeId × Value → H} {w : World} {base : Nat} {sp : Nat → Bool} {held : Bool} {fuel : Nat} {cs : List Value} {x : DataW H × List MemPlace},
    DataW.trod enc Try.prog w base sp held fuel e cs = some x → ∃ a, cs = f a ∧ Q w a ∧ β a ≤ UB x
theorem opn_rows {e size : Nat} {α : Type} {f : α → List Value} {Q : World → α → Prop} {β : α → Nat} (ht : Try.prog.underlying t = some (.slice e)) (hz : Try.prog.cellsOf e = size) (hp : 0 < size) (hf : RowF f size) (ho : Opn e f Q β)
    (hx : DataW.trod enc Try.prog w base sp held fuel t cs = some x) : ∃ v, ∃ l : List α, cs = [v] ∧ SlOk w v l.length (rows f l) size ∧ (∀ a ∈ l, Q w a) ∧ (l.map β).sum + 1 ≤ UB x ∧ l.length + 1 ≤ UB x := by
  subst hz
  rcases open_slice ht hx with ⟨rfl, rfl⟩ | ⟨a, len, cap, m, n, D, Pl, rfl, hb, hl, hm, hmm, rfl, hall⟩
  · exact ⟨_, [], rfl, ⟨[], rfl, by simp [rows], .inl ⟨.inl rfl, rfl, rfl⟩⟩, (fun _ h => by cases h), by simp [UB, Rows.uptoBulk], by simp [UB, Rows.uptoBulk]⟩
  · have hlm : len ≤ m := by rw [hmm]; split <;> omega
    have key : ∀ k, k ≤ len → ∃ l : List α, l.length = k ∧ (∀ a ∈ l, Q w a) ∧ (l.map β).sum ≤ Rows.uptoBulkAll ((List.range k).map D) ∧ ∀ i (h : i < l.length), ∃ cs', w.cells? base (a.add (i * Try.prog.cellsOf e)) (Try.prog.cellsOf e) = some cs' ∧ cs' = f l[i] := by
      intro k
      induction k with
      | zero => intro _; exact ⟨[], rfl, (fun _ h => by cases h), by simp, fun i h => by simp at h⟩
      | succ k ih =>
        intro hk
        obtain ⟨l, g1, g2, g3, g4⟩ := ih (by omega)
        obtain ⟨cs', e1, e2⟩ := hall k (by omega)
        obtain ⟨z, e3, e4, e5⟩ := ho e2
        refine ⟨l ++ [z], by simp [g1], fun y hy => ?_, ?_, fun i h => ?_⟩
        · rcases List.mem_append.1 hy with hy | hy
          · exact g2 y hy
          · simp at hy; subst hy; exact e4
        · rw [List.range_succ, List.map_append, List.map_append, List.sum_append, bulkAll_sum, List.map_append, List.sum_append, ← bulkAll_sum]
          simp only [List.map_cons, List.map_nil, List.sum_cons, List.sum_nil, Nat.add_zero]
          simp only [UB] at e5
          omega
        · by_cases hi : i < l.length
          · rw [List.getElem_append_left hi]; exact g4 i hi
          · have : i = k := by simp at h; omega
            subst this
            refine ⟨cs', e1, ?_⟩
            rw [e3]
            simp [g1]
    obtain ⟨l, g1, g2, g3, g4⟩ := key len (Nat.le_refl _)
    have hrl := rows_len hf l
    have hcell : ∀ i (h : i < l.length) j, j < Try.prog.cellsOf e → w.cell? (a.add (i * Try.prog.cellsOf e + j)) = (f l[i])[j]? := fun i h j hj => by
      obtain ⟨cs', e1, e2⟩ := g4 i h
      obtain ⟨_, _, e3⟩ := World.cells?_some e1
      rw [← e2, ← e3 j hj]
      rw [add_add]
    have hrow : ∀ j, j < (rows f l).length → w.cell? (a.add j) = (rows f l)[j]? := fun j hj => by
      rw [hrl] at hj
      have hd : j / Try.prog.cellsOf e < l.length := Nat.div_lt_of_lt_mul (by rw [Nat.mul_comm]; exact hj)
      have hmod := Nat.mod_lt j hp
      have hdm : j / Try.prog.cellsOf e * Try.prog.cellsOf e + j % Try.prog.cellsOf e = j := by rw [Nat.mul_comm]; exact Nat.div_add_mod j _
      have h1 := hcell _ hd _ hmod
      rw [hdm] at h1
      haveI : Inhabited α := ⟨l[j / Try.prog.cellsOf e]⟩
      have h2 := rows_get hf l _ _ hd hmod
      rw [hdm] at h2
      rw [h1, h2]
      simp [List.getD_eq_getElem?_getD, List.getElem?_eq_getElem hd]
    refine ⟨.slice (some a) len cap, l, rfl, ?_, g2, ?_, ?_⟩
    · rw [g1]
      by_cases h0 : len = 0
      · subst h0
        have : l = [] := List.length_eq_zero_iff.1 g1
        subst this
        exact ⟨[], rfl, by simp [rows], .inl ⟨.inr ⟨a, cap, rfl⟩, rfl, rfl⟩⟩
      · have h2 := hrow 0 (by rw [hrl, g1]; exact Nat.mul_pos (by omega) hp)
        have hpos : 0 < (rows f l).length := by rw [hrl, g1]; exact Nat.mul_pos (by omega) hp
        rw [List.getElem?_eq_getElem hpos] at h2
        obtain ⟨b, o, s⟩ := a
        unfold World.cell? at h2
        have hs : s = none := by
          cases s with
          | none => rfl
          | some s =>
            simp only [Addr.add] at h2
            split at h2
            · simp at h2
            · cases h2
        subst hs
        simp only [add_off] at h2
        cases hh : w.heap[b]? with
        | none => rw [hh] at h2; cases h2
        | some ob =>
          cases ob with
          | cells cur T fz =>
            refine ⟨[b], rfl, by rw [hrl, g1], .inr ⟨b, o, cap, cur, T, fz, rfl, hl, rfl, hh, fun j hj => ?_⟩⟩
            have := hrow j hj
            rw [add_off] at this
            unfold World.cell? at this
            rw [hh] at this
            simpa using this
          | _ => rw [hh] at h2; cases h2
    · simp only [UB, Rows.uptoBulk]; omega
    · have : len ≤ Rows.uptoBulkAll ((List.range len).map D) := by
        have : ∀ l : List (DataW H), l.length ≤ Rows.uptoBulkAll l := by
          intro l
          induction l with
          | nil => simp
          | cons y l ih =>
            have h1 : 1 ≤ Rows.uptoBulk y := by
              cases y with
              | lit q => cases q <;> simp [Rows.uptoBulk]
              | _ => simp [Rows.uptoBulk]
            simp only [Rows.uptoBulkAll, List.length_cons]; omega
        have := this ((List.range len).map D)
        simpa using this
      rw [g1]
      simp only [UB, Rows.uptoBulk]; omega
end
end Go.Proofs.Ytkpinncakbnikaa
namespace Go.Proofs.Ytkpinncakbnikaa
open Go Np Go.Proofs Go.ChangeShapes Go.WideShapes Go.ChangeAt Go.RowKit Go.Deep
set_option linter.all false
set_option maxRecDepth 20000
noncomputable def FT (t i : Nat) : Nat := ((fTy Try.prog t i).map (·.1)).getD 0
def dMax (d : Dat) : Nat := max d.name.length (max d.mail.length (max d.raw.length (max d.texts.length (d.texts.map List.length).sum)))
structure OkN (d : Dat) : Prop where
  addr : OkA d.addr
  nums : ∀ i, d.num i ≤ 4294967295
theorem le_sum {α : Type} (f : α → Nat) : ∀ {l : List α} {x : α}, x ∈ l → f x ≤ (l.map f).sum := by
  intro l
  induction l with
  | nil => intro x h; cases h
  | cons y l ih =>
    intro x h
    simp only [List.map_cons, List.sum_cons]
    rcases List.mem_cons.1 h with rfl | h
    · omega
    · have := ih h; omega
theorem okD_of {d : Dat} (h : OkN d) (hb : dMax d ≤ 1048576) : OkD d := by
  unfold dMax at hb
  exact ⟨h.addr, by omega, by omega, h.nums, by omega, fun x hx => by have := le_sum List.length hx; omega, by omega⟩
instance : RowF (fun s : By => [str s]) 1 := ⟨fun _ => rfl⟩
instance : RowF (fun p : Dat × Value => daC p.1 p.2) 12 := ⟨fun _ => rfl⟩
theorem rows_strs (l : List By) : rows (fun s : By => [str s]) l = strs l := by
  induction l with
  | nil => rfl
  | cons x l ih => rw [show rows (fun s : By => [str s]) (x :: l) = [str x] ++ rows (fun s : By => [str s]) l from rfl, ih]; rfl
theorem opn_strE {e : Nat} [h : StrT Try.prog e] : Opn e (fun s : By => [str s]) (fun _ _ => True) List.length := fun hx => by
  obtain ⟨l, h1, h2⟩ := opn_str hx
  exact ⟨l, h1, trivial, by omega⟩
section
variable {H : Type} {enc : TypeId × Value → H} {w : World} {base : Nat} {sp : Nat → Bool} {held : Bool} {fuel : Nat} {t : TypeId} {cs : List Value} {x : DataW H × List MemPlace}
theorem opn_strs {e : Nat} (ht : Try.prog.underlying t = some (.slice e)) (hs : Try.prog.underlying e = some .string) (hz : Try.prog.cellsOf e = 1) (hx : DataW.trod enc Try.prog w base sp held fuel t cs = some x) :
    ∃ v, ∃ l : List By, cs = [v] ∧ SlOk w v l.length (strs l) 1 ∧ l.length + 1 ≤ UB x ∧ (l.map List.length).sum + 1 ≤ UB x := by
  haveI : StrT Try.prog e := ⟨hs⟩
  obtain ⟨v, l, h1, h2, _, h4, h5⟩ := opn_rows ht hz (by decide) inferInstance opn_strE hx
  rw [rows_strs] at h2
  exact ⟨v, l, h1, h2, h5, h4⟩
theorem list12 {α : Type} {l : List α} (h : l.length = 12) : ∃ a0 a1 a2 a3 a4 a5 a6 a7 a8 a9 a10 a11, l = [a0, a1, a2, a3, a4, a5, a6, a7, a8, a9, a10, a11] := by
  match l, h with
  | [a0, a1, a2, a3, a4, a5, a6, a7, a8, a9, a10, a11], _ => exact ⟨_, _, _, _, _, _, _, _, _, _, _, _, rfl⟩
theorem opn_data : Opn Y_api_Data (fun p : Dat × Value => daC p.1 p.2) (fun w p => SlOk w p.2 p.1.texts.length (strs p.1.texts) 1 ∧ OkN p.1) (fun p => dMax p.1) := by
  intro H enc w base sp held fuel cs x hx
  obtain ⟨hl, m0, y0, f0, b0⟩ := opn_field (i := 0) (ft := FT Y_api_Data 0) (off := 0) (n := 3) (by kernel_rfl) hx
  obtain ⟨_, m1, y1, f1, b1⟩ := opn_field (i := 1) (ft := FT Y_api_Data 1) (off := 3) (n := 1) (by kernel_rfl) hx
  obtain ⟨_, m2, y2, f2, b2⟩ := opn_field (i := 2) (ft := FT Y_api_Data 2) (off := 4) (n := 1) (by kernel_rfl) hx
  obtain ⟨_, m3, y3, f3, b3⟩ := opn_field (i := 3) (ft := FT Y_api_Data 3) (off := 5) (n := 5) (by kernel_rfl) hx
  obtain ⟨_, m4, y4, f4, b4⟩ := opn_field (i := 4) (ft := FT Y_api_Data 4) (off := 10) (n := 1) (by kernel_rfl) hx
  obtain ⟨_, m5, y5, f5, b5⟩ := opn_field (i := 5) (ft := FT Y_api_Data 5) (off := 11) (n := 1) (by kernel_rfl) hx
  obtain ⟨c0, c1, c2, c3, c4, c5, c6, c7, c8, c9, c10, c11, rfl⟩ := list12 (hl.trans (show Try.prog.cellsOf Y_api_Data = 12 by kernel_rfl))
  obtain ⟨_, n0, z0, g0, _⟩ := opn_field (i := 0) (ft := FT (FT Y_api_Data 0) 0) (off := 0) (n := 1) (by kernel_rfl) f0
  obtain ⟨_, n1, z1, g1, _⟩ := opn_field (i := 1) (ft := FT (FT Y_api_Data 0) 1) (off := 1) (n := 1) (by kernel_rfl) f0
  obtain ⟨_, n2, z2, g2, _⟩ := opn_field (i := 2) (ft := FT (FT Y_api_Data 0) 2) (off := 2) (n := 1) (by kernel_rfl) f0
  obtain ⟨_, k0, q0, r0, _⟩ := opn_field (i := 0) (ft := FT (FT Y_api_Data 3) 0) (off := 0) (n := 1) (by kernel_rfl) f3
  obtain ⟨_, k1, q1, r1, _⟩ := opn_field (i := 1) (ft := FT (FT Y_api_Data 3) 1) (off := 1) (n := 1) (by kernel_rfl) f3
  obtain ⟨_, k2, q2, r2, _⟩ := opn_field (i := 2) (ft := FT (FT Y_api_Data 3) 2) (off := 2) (n := 1) (by kernel_rfl) f3
  obtain ⟨_, k3, q3, r3, _⟩ := opn_field (i := 3) (ft := FT (FT Y_api_Data 3) 3) (off := 3) (n := 1) (by kernel_rfl) f3
  obtain ⟨_, k4, q4, r4, _⟩ := opn_field (i := 4) (ft := FT (FT Y_api_Data 3) 4) (off := 4) (n := 1) (by kernel_rfl) f3
  obtain ⟨six, e0⟩ := opn_bool (h := ⟨by kernel_rfl⟩) g0
  obtain ⟨hi, e1, u1⟩ := opn_nat (k := .u64) (h := ⟨by kernel_rfl⟩) rfl g1
  obtain ⟨lo, e2, u2⟩ := opn_nat (k := .u64) (h := ⟨by kernel_rfl⟩) rfl g2
  obtain ⟨name, e3, u3⟩ := opn_str (h := ⟨by kernel_rfl⟩) f1
  obtain ⟨mail, e4, u4⟩ := opn_str (h := ⟨by kernel_rfl⟩) f2
  obtain ⟨x0, e5, u5⟩ := opn_nat (k := .u32) (h := ⟨by kernel_rfl⟩) rfl r0
  obtain ⟨x1, e6, u6⟩ := opn_nat (k := .u32) (h := ⟨by kernel_rfl⟩) rfl r1
  obtain ⟨x2, e7, u7⟩ := opn_nat (k := .u32) (h := ⟨by kernel_rfl⟩) rfl r2
  obtain ⟨x3, e8, u8⟩ := opn_nat (k := .u32) (h := ⟨by kernel_rfl⟩) rfl r3
  obtain ⟨x4, e9, u9⟩ := opn_nat (k := .u32) (h := ⟨by kernel_rfl⟩) rfl r4
  obtain ⟨v, texts, e10, u10, u11, u12⟩ := opn_strs (e := Y_string) (by kernel_rfl) (by kernel_rfl) (by kernel_rfl) f4
  obtain ⟨raw, e11, u13⟩ := opn_str (h := ⟨by kernel_rfl⟩) f5
  simp only [List.drop_succ_cons, List.drop_zero, List.take_succ_cons, List.take_zero, List.cons.injEq, and_true] at e0 e1 e2 e3 e4 e5 e6 e7 e8 e9 e10 e11
  subst e0 e1 e2 e3 e4 e5 e6 e7 e8 e9 e10 e11
  have m64 : IntKind.u64.max = 18446744073709551615 := rfl
  have m32 : IntKind.u32.max = 4294967295 := rfl
  refine ⟨(⟨⟨six, hi, lo⟩, name, mail, x0, x1, x2, x3, x4, texts, raw⟩, c10), rfl, ⟨u10, ⟨⟨by simp only; omega, by simp only; omega⟩, ?_⟩⟩, ?_⟩
  · exact num_cases (d := ⟨⟨six, hi, lo⟩, name, mail, x0, x1, x2, x3, x4, texts, raw⟩) (P := (· ≤ 4294967295)) (by simp only; omega) (by simp only; omega) (by simp only; omega) (by simp only; omega) (by simp only; omega) (by decide)
  · simp only [dMax]
    omega
/-- an argument's value is as its cells -/
theorem arg_cells {v : Value} {d : DataW H} {p : List MemPlace} (h : DataW.Trod enc Try.prog w base sp held t v d p) : ∃ fuel, DataW.trod enc Try.prog w base sp held fuel t v.cells.toList = some (d, p) := h
theorem arg_data {r : Reach} {b0 : Nat} {v : Value} {d : DataW H} {p : List MemPlace} (hv : Value.okWide Try.prog w r b0 Y_api_Data v) (h : DataW.Trod enc Try.prog w base sp held Y_api_Data v d p) (hb : Rows.uptoBulk d ≤ 1048576) :
    ∃ (a : Dat) (u : Value), v = daV a u ∧ SlOk w u a.texts.length (strs a.texts) 1 ∧ OkD a := by
  obtain ⟨fuel, hf⟩ := h
  obtain ⟨fs, hu⟩ : ∃ fs, Try.prog.underlying Y_api_Data = some (.struct fs) := ⟨Try.prog.fieldsOf Y_api_Data, by kernel_rfl⟩
  obtain ⟨cs, rfl, _⟩ := okWide_struct hu hv
  obtain ⟨⟨a, u⟩, h1, ⟨h2, h3⟩, h4⟩ := opn_data hf
  have h5 : cs = (daC a u).toArray := by
    have : cs.toList = daC a u := h1
    rw [← this]
  exact ⟨a, u, by rw [h5], h2, okD_of h3 (Nat.le_trans h4 hb)⟩
theorem arg_int {r : Reach} {b0 : Nat} {v : Value} {d : DataW H} {p : List MemPlace} (h : DataW.Trod enc Try.prog w base sp held Y_int v d p) (hv : Value.okWide Try.prog w r b0 Y_int v) : ∃ n : Int, v = .int .i64 n := by
  exact okWide_int (by kernel_rfl) hv
theorem arg_str {r : Reach} {b0 t : Nat} {v : Value} {d : DataW H} {p : List MemPlace} (ht : Try.prog.underlying t = some .string) (hv : Value.okWide Try.prog w r b0 t v) (h : DataW.Trod enc Try.prog w base sp held t v d p) : ∃ l : By, v = str l ∧ l.length + 1 ≤ Rows.uptoBulk d := by
  obtain ⟨s, rfl⟩ := okWide_string ht hv
  obtain ⟨fuel, hf⟩ := h
  obtain ⟨l, h1, h2⟩ := opn_str (h := ⟨ht⟩) hf
  simp [Value.cells] at h1
  exact ⟨l, by rw [h1], h2⟩
theorem arg_strs {r : Reach} {b0 t e : Nat} {v : Value} {d : DataW H} {p : List MemPlace} (ht : Try.prog.underlying t = some (.slice e)) (he : Try.prog.underlying e = some .string) (hz : Try.prog.cellsOf e = 1) (hv : Value.okWide Try.prog w r b0 t v) (h : DataW.Trod enc Try.prog w base sp held t v d p) :
    ∃ l : List By, SlOk w v l.length (strs l) 1 ∧ l.length + 1 ≤ Rows.uptoBulk d ∧ ∀ x ∈ l, x.length + 1 ≤ Rows.uptoBulk d := by
  obtain ⟨a, n, c, rfl⟩ := okWide_slice ht hv
  obtain ⟨fuel, hf⟩ := h
  obtain ⟨v, l, h1, h2, h3, h4⟩ := opn_strs ht he hz hf
  simp [Value.cells] at h1
  subst h1
  exact ⟨l, h2, h3, fun x hx => by have := le_sum List.length hx; simp only [UB] at h4; omega⟩
end
theorem own : ownKnob Try.prog.godebug = Option.none := by kernel_rfl
theorem laid : laidOutB Try.prog = true := by kernel_rfl
/-- the end of each law -/
theorem law_post {H : Type} {enc : TypeId × Value → H} {f : Func} {s : ChangeSpec} {W W' : World} {args : Array Value} {ds gs : List (DataW H)} {before : List MemPlace} {sp : List Nat} {L : List (Nat × Ent)}
    (hW : DataW.Whole enc Try.prog f.params.toList s.vars false W args.toList ds gs before) (hv : s.vars = []) (hp : ∀ t ∈ f.params.toList, Try.prog.readableRec t = true ∧ t < Try.prog.types.size) (hr : f.resultTypes = #[Y_bool])
    (hs : (s.fn H (ds ++ gs)).results = [.lit (.bool true)]) (ha : (s.fn H (ds ++ gs)).args = ds) (hg : (s.fn H (ds ++ gs)).vars = []) (hA : At W ⟨[], sp⟩ W' L) {u : Value} (hu : u = .bool true) :
    s.post enc Try.prog f false true false false W args u W' := by
  subst hu
  have hW' := hW
  obtain ⟨p, q, h1, h2, rfl, h3, h4⟩ := hW
  rw [hv] at h2
  obtain ⟨_, rfl⟩ := trodVars_none h2
  have hlt : ∀ x ∈ p, x.block < W.heap.size := fun x hx => hW'.lt x (by simp [hx])
  have hb := At.below hA
  refine post_of_below (pa := p) (pv := []) hW' (fun b sp hd => ?_) (fun sp hsp => ?_) (fun sp hsp => ?_) rfl hb ?_
  · rw [hs, hr]
    exact trodAll_cons_mk (shut_bool (by kernel_rfl) _) trodAll_mk0
  · rw [ha]
    have : ∀ (ts : List TypeId) (vs : List Value) (ds : List (DataW H)) (p : List MemPlace), (∀ t ∈ ts, Try.prog.readableRec t = true ∧ t < Try.prog.types.size) → (∀ x ∈ p, x.block < W.heap.size ∧ sp x.block = true) →
        DataW.TrodAll enc Try.prog W 0 (fun _ => true) true ts vs ds p → DataW.TrodAll enc Try.prog W' 0 sp true ts vs ds p := by
      intro ts
      induction ts with
      | nil =>
        intro vs ds p _ _ h
        obtain ⟨rfl, rfl, rfl⟩ := trodAll_nil h
        exact trodAll_mk0
      | cons t ts ih =>
        intro vs ds p hts hpp h
        obtain ⟨v, vs, d, ds, a, b, rfl, rfl, rfl, g1, g2⟩ := trodAll_cons h
        obtain ⟨k1, k2⟩ := hts t (by simp)
        exact ⟨a, b, WideElems.Trod_stays laid k1 k2 g1 (fun x hx => hb.same (hpp x (by simp [hx])).1) (fun x hx => (hpp x (by simp [hx])).2), ih vs ds b (fun t ht => hts t (by simp [ht])) (fun x hx => hpp x (by simp [hx])) g2, rfl⟩
    exact this _ _ _ _ hp (fun x hx => ⟨hlt x hx, hsp x (by simp [hx])⟩) h1
  · rw [hv, hg]
    exact rfl
  · refine ok_one hr rfl ?_
    exact okWide_bool_mk (by kernel_rfl) _
end Go.Proofs.Ytkpinncakbnikaa
