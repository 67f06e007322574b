import Derived.Test.YtkpinncakbnikaaNp2
import Derived.Test.YtkpinncakbnikaaS1
import Derived.Test.YtkpinncakbnikaaT1
import Derived.Test.YtkpinncakbnikaaF1
namespace Go.Proofs.Ytkpinncakbnikaa
open Go Np Go.Proofs
set_option linter.all false

abbrev ptr (b : Nat) : Value := .pointer (some ⟨b, 0, none⟩)
theorem u8s_append (x y : By) : u8s (x ++ y) = u8s x ++ u8s y := by simp [u8s]
theorem u8s_take (x : By) (n : Nat) : u8s (x.take n) = (u8s x).take n := by simp [u8s]
theorem u8s_drop (x : By) (n : Nat) : u8s (x.drop n) = (u8s x).drop n := by simp [u8s]
theorem u8s_one (x : By) : ∀ v ∈ u8s x, v.oneCell' = true := by
  intro v hv; simp only [u8s, List.mem_map] at hv; obtain ⟨a, _, rfl⟩ := hv; rfl
def writer (W : Wr) : Ent := exE fun v : Value => puE (andE (cells [v, .int .i64 W.most, .int .i64 W.e] Y_octets_Writer) 0 (own v W.s.length (u8s W.s) Y_uint8 1)) (W.s.length ≤ W.most ∧ W.most ≤ 65535)
section
variable {w0 w : World} {F : Fp} {L L' : List (Nat × Ent)} {b : Nat} {W : Wr} {K : Value → World → Prop}
theorem writer_open (h : At w0 F w ((b, writer W) :: L)) : (W.s.length ≤ W.most ∧ W.most ≤ 65535) ∧ ∃ v, SlV v W.s.length ∧ At w0 F w ((b, cells [v, .int .i64 W.most, .int .i64 W.e] Y_octets_Writer) :: (0, own v W.s.length (u8s W.s) Y_uint8 1) :: L) := by
  obtain ⟨v, h⟩ := At.exE_iff.1 h
  obtain ⟨h1, h⟩ := At.puE_iff.1 h
  have h := At.andE_iff.1 h
  exact ⟨h1, v, own_slv (h.owns inferInstance), h⟩
theorem writer_close {v : Value} (h1 : W.s.length ≤ W.most ∧ W.most ≤ 65535) (h : At w0 F w ((b, cells [v, .int .i64 W.most, .int .i64 W.e] Y_octets_Writer) :: (0, own v W.s.length (u8s W.s) Y_uint8 1) :: L)) : At w0 F w ((b, writer W) :: L) :=
  At.exE_iff.2 ⟨v, At.puE_iff.2 ⟨h1, At.andE_iff.2 h⟩⟩


theorem c_Writer_Err : C1 Try.prog F_octets_Writer_Err #[ptr b] b (writer W) fun v Y => v = .int .i64 W.e ∧ Y = writer W := by
  intro w0 F w hA
  obtain ⟨h1, v, hv, hA⟩ := writer_open hA
  refine ok_octets_Writer_Err ?_
  unfold T_octets_Writer_Err
  repeat' (first | refine Step.out ?_ | refine And.intro (fun h => ?_) (fun h => ?_) | intro _ | refine GW.i64 (by omega) ?_ | refine GW.u32 (by omega) ?_ | refine GW.u64 (by omega) ?_ | refine GW.u8 (by omega) ?_ | refine GW.u16 (by omega) ?_ | refine And.intro rfl ?_ | refine And.intro (by assumption) ?_ | refine And.intro (by omega) ?_ | refine And.intro (by simp only [List.length_append, List.length_replicate, List.length_drop, List.length_take, List.length_cons, List.length_nil, u8s_len, be_length]; omega) ?_ | fail)
  exact ⟨_, ⟨rfl, rfl⟩, writer_close h1 ‹_›⟩
instance [h : At w0 F w L] [r : Rm L b (writer W) L'] : Step (Gv Try.prog F_octets_Writer_Err #[ptr b] w K) (∀ w', At w0 F w' ((b, writer W) :: L') → K (.int .i64 W.e) w') :=
  ⟨fun hk => C1.call c_Writer_Err h r fun v Y w' hv hA => by obtain ⟨rfl, rfl⟩ := hv; exact hk w' hA⟩

theorem c_Writer_Len : C1 Try.prog F_octets_Writer_Len #[ptr b] b (writer W) fun v Y => v = .int .i64 W.s.length ∧ Y = writer W := by
  intro w0 F w hA
  obtain ⟨h1, v, hv, hA⟩ := writer_open hA
  refine ok_octets_Writer_Len ?_
  unfold T_octets_Writer_Len
  repeat' (first | refine Step.out ?_ | refine And.intro (fun h => ?_) (fun h => ?_) | intro _ | refine GW.i64 (by omega) ?_ | refine GW.u32 (by omega) ?_ | refine GW.u64 (by omega) ?_ | refine GW.u8 (by omega) ?_ | refine GW.u16 (by omega) ?_ | refine And.intro rfl ?_ | refine And.intro (by assumption) ?_ | refine And.intro (by omega) ?_ | refine And.intro (by simp only [List.length_append, List.length_replicate, List.length_drop, List.length_take, List.length_cons, List.length_nil, u8s_len, be_length]; omega) ?_ | fail)
  exact ⟨_, ⟨rfl, rfl⟩, writer_close h1 ‹_›⟩
instance [h : At w0 F w L] [r : Rm L b (writer W) L'] : Step (Gv Try.prog F_octets_Writer_Len #[ptr b] w K) (∀ w', At w0 F w' ((b, writer W) :: L') → K (.int .i64 W.s.length) w') :=
  ⟨fun hk => C1.call c_Writer_Len h r fun v Y w' hv hA => by obtain ⟨rfl, rfl⟩ := hv; exact hk w' hA⟩

theorem c_Writer_Text : C1 Try.prog F_octets_Writer_Text #[ptr b] b (writer W) fun v Y => v = str W.s ∧ Y = writer W := by
  intro w0 F w hA
  obtain ⟨h1, v, hv, hA⟩ := writer_open hA
  refine ok_octets_Writer_Text ?_
  unfold T_octets_Writer_Text
  repeat' (first | refine Step.out ?_ | refine And.intro (fun h => ?_) (fun h => ?_) | intro _ | refine GW.i64 (by omega) ?_ | refine GW.u32 (by omega) ?_ | refine GW.u64 (by omega) ?_ | refine GW.u8 (by omega) ?_ | refine GW.u16 (by omega) ?_ | refine And.intro rfl ?_ | refine And.intro (by assumption) ?_ | refine And.intro (by omega) ?_ | refine And.intro (by simp only [List.length_append, List.length_replicate, List.length_drop, List.length_take, List.length_cons, List.length_nil, u8s_len, be_length]; omega) ?_ | fail)
  exact ⟨_, ⟨rfl, rfl⟩, writer_close h1 ‹_›⟩
instance [h : At w0 F w L] [r : Rm L b (writer W) L'] : Step (Gv Try.prog F_octets_Writer_Text #[ptr b] w K) (∀ w', At w0 F w' ((b, writer W) :: L') → K (str W.s) w') :=
  ⟨fun hk => C1.call c_Writer_Text h r fun v Y w' hv hA => by obtain ⟨rfl, rfl⟩ := hv; exact hk w' hA⟩

theorem c_Writer_Put {x : By} (hx : x.length ≤ 1048576) : C1 Try.prog F_octets_Writer_Put #[ptr b, str x] b (writer W) fun v Y => v = .int .i64 (W.put x).2 ∧ Y = writer (W.put x).1 := by
  intro w0 F w hA
  refine ok_octets_Writer_Put ?_
  unfold T_octets_Writer_Put
  refine Step.out ?_
  intro w hA
  obtain ⟨h1, v, hv, hA⟩ := writer_open hA
  repeat' (first | refine Step.out ?_ | refine And.intro (fun h => ?_) (fun h => ?_) | intro _ | refine GW.i64 (by omega) ?_ | refine GW.u32 (by omega) ?_ | refine GW.u64 (by omega) ?_ | refine GW.u8 (by omega) ?_ | refine GW.u16 (by omega) ?_ | refine And.intro rfl ?_ | refine And.intro (by assumption) ?_ | refine And.intro (by omega) ?_ | refine And.intro (by simp only [List.length_append, List.length_replicate, List.length_drop, List.length_take, List.length_cons, List.length_nil, u8s_len, be_length]; omega) ?_ | fail)
  · rw [Wr.put, if_pos (by omega)]; exact ⟨_, ⟨rfl, rfl⟩, writer_close h1 ‹_›⟩
  · rw [Wr.put, if_neg (by omega), if_pos (by omega)]; exact ⟨_, ⟨rfl, rfl⟩, writer_close h1 ‹_›⟩
  · rename_i hA; rw [← u8s_append, ← List.length_append] at hA
    rw [Wr.put, if_neg (by omega), if_neg (by omega)]; exact ⟨_, ⟨rfl, rfl⟩, writer_close (by simp; omega) hA⟩
instance {x : By} [h : At w0 F w L] [r : Rm L b (writer W) L'] : Step (Gv Try.prog F_octets_Writer_Put #[ptr b, str x] w K) (x.length ≤ 1048576 ∧ ∀ w', At w0 F w' ((b, writer (W.put x).1) :: L') → K (.int .i64 (W.put x).2) w') :=
  ⟨fun ⟨hx, hk⟩ => C1.call (c_Writer_Put hx) h r fun v Y w' hv hA => by obtain ⟨rfl, rfl⟩ := hv; exact hk w' hA⟩

theorem fits_eq {v n : Int} (h : 1 ≤ n) (h' : n ≤ 4) (hv : 0 ≤ v) : (v.fdiv (2 ^ (min (8 * n).toNat IntKind.u64.bits)) = 0) ↔ fits v n := by
  have key : ∀ m : Int, 0 < m → (v.fdiv m = 0 ↔ v < m) := fun m hm => by
    rw [Int.fdiv_eq_ediv_of_nonneg _ (by omega)]
    constructor
    · intro h0
      have := Int.mul_ediv_add_emod v m
      have := Int.emod_lt_of_pos v hm
      rw [h0] at *; omega
    · intro h0; exact Int.ediv_eq_zero_of_lt hv h0
  have : n = 1 ∨ n = 2 ∨ n = 3 ∨ n = 4 := by omega
  unfold fits
  rcases this with rfl | rfl | rfl | rfl <;> (rw [show IntKind.u64.bits = 64 from rfl]; rw [key _ (by decide)]; simp)
theorem c_fits {v n : Int} (hv : 0 ≤ v ∧ v ≤ 4294967295) (h : At w0 F w L) (hk : ∀ w', At w0 F w' L → K (.bool (dec (fits v n))) w') : Gv Try.prog F_octets_fits #[.int .u32 v, .int .i64 n] w K := by
  refine ok_octets_fits ?_
  unfold T_octets_fits
  repeat' (first | refine Step.out ?_ | refine And.intro (fun h => ?_) (fun h => ?_) | intro _ | refine GW.i64 (by omega) ?_ | refine GW.u32 (by omega) ?_ | refine GW.u64 (by omega) ?_ | refine GW.u8 (by omega) ?_ | refine GW.u16 (by omega) ?_ | refine And.intro rfl ?_ | refine And.intro (by assumption) ?_ | refine And.intro (by omega) ?_ | refine And.intro (by simp only [List.length_append, List.length_replicate, List.length_drop, List.length_take, List.length_cons, List.length_nil, u8s_len, be_length]; omega) ?_ | fail)
  · have e : dec (v.fdiv (2 ^ (min (8 * n).toNat IntKind.u64.bits)) = 0) = dec (fits v n) := by rw [Bool.eq_iff_iff, dec_iff, dec_iff]; exact fits_eq (by omega) (by omega) hv.1
    rw [e]; exact hk _ ‹_›
  · have e : dec (fits v n) = false := by rw [dec_eq]; exact decide_eq_false (by rintro ⟨h1, h2, _⟩; omega)
    rw [← e]; exact hk _ ‹_›
  · have e : dec (fits v n) = false := by rw [dec_eq]; exact decide_eq_false (by rintro ⟨h1, h2, _⟩; omega)
    rw [← e]; exact hk _ ‹_›
instance {v n : Int} [h : At w0 F w L] : Step (Gv Try.prog F_octets_fits #[.int .u32 v, .int .i64 n] w K) ((0 ≤ v ∧ v ≤ 4294967295) ∧ ∀ w', At w0 F w' L → K (.bool (dec (fits v n))) w') := ⟨fun ⟨hv, hk⟩ => c_fits hv h hk⟩

theorem cut_set (n v k : Nat) (h : k < n) (x : Value) (hx : x = .int .u8 (UInt8.ofNat (v / 256 ^ k)).toNat) :
    (List.replicate (n - k) (Value.int .u8 0) ++ (u8s (be n v)).drop (n - k)).set (n - 1 - k) x = List.replicate (n - (k + 1)) (Value.int .u8 0) ++ (u8s (be n v)).drop (n - (k + 1)) := by
  apply List.ext_getElem?
  intro i
  rw [List.getElem?_set]
  simp only [List.getElem?_append, List.length_replicate, List.getElem?_replicate, List.getElem?_drop, List.length_append, List.length_drop, u8s_len, be_length]
  have hget : ∀ j, j < n → (u8s (be n v))[j]? = some (Value.int .u8 (UInt8.ofNat (v / 256 ^ (n - 1 - j))).toNat) := fun j hj => by simp [u8s, be, hj]
  split
  · rename_i e
    subst e
    rw [if_pos (by omega), if_neg (by omega), hget _ (by omega), hx]
    rw [show n - (k + 1) + (n - 1 - k - (n - (k + 1))) = n - 1 - k from by omega, show n - 1 - (n - 1 - k) = k from by omega]
  · split
    · rename_i h1 h2
      by_cases h3 : i < n - (k + 1)
      · simp [h3]
      · omega
    · rename_i h1 h2
      rw [if_neg (by omega)]
      congr 1; omega
theorem cut_byte (u i : Nat) (hi : i ≤ 3) : Value.int .u8 (IntKind.u8.wrap ((u : Int).fdiv (2 ^ (min (8 * (i : Int)).toNat IntKind.u32.bits)))) = .int .u8 (UInt8.ofNat (u / 256 ^ i)).toNat := by
  rw [IntKind.wrap_u8', show IntKind.u32.bits = 32 from rfl]
  have : i = 0 ∨ i = 1 ∨ i = 2 ∨ i = 3 := by omega
  rcases this with rfl | rfl | rfl | rfl <;> simp [Int.fdiv_eq_ediv_of_nonneg]
theorem c_cut {v n : Int} (hv : 0 ≤ v ∧ v ≤ 4294967295) (hn : 1 ≤ n ∧ n ≤ 4) (h : At w0 F w L)
    (hk : ∀ r w', SlV r n.toNat → At w0 F w' ((0, own r n.toNat (u8s (be n.toNat v.toNat)) Y_uint8 1) :: L) → K r w') : Gv Try.prog F_octets_cut #[.int .u32 v, .int .i64 n] w K := by
  obtain ⟨m, rfl⟩ : ∃ m : Nat, n = m := ⟨n.toNat, by omega⟩
  obtain ⟨u, rfl⟩ : ∃ u : Nat, v = u := ⟨v.toNat, by omega⟩
  simp only [Int.toNat_natCast] at hk ⊢
  refine ok_octets_cut ?_
  unfold T_octets_cut
  repeat' (first | refine Step.out ?_ | refine And.intro (fun h => ?_) (fun h => ?_) | intro _ | refine GW.i64 (by omega) ?_ | refine GW.u32 (by omega) ?_ | refine GW.u64 (by omega) ?_ | refine GW.u8 (by omega) ?_ | refine GW.u16 (by omega) ?_ | refine And.intro rfl ?_ | refine And.intro (by assumption) ?_ | refine And.intro (by omega) ?_ | refine And.intro (by simp only [List.length_append, List.length_replicate, List.length_drop, List.length_take, List.length_cons, List.length_nil, u8s_len, be_length]; omega) ?_ | fail)
  rename_i b w hA
  refine loop (fun s w => ∃ i : Nat, i ≤ m ∧ s = [.int .u32 u, .int .i64 m, .slice (some ⟨b, 0, none⟩) m m, .int .i64 m, .int .i64 i] ∧
      At w0 F w ((b, own (.slice (some ⟨b, 0, none⟩) m m) m (List.replicate (m - i) (.int .u8 0) ++ (u8s (be m u)).drop (m - i)) Y_uint8 1) :: L))
    (fun s w => match s with | [_, _, _, _, .int _ i] => (m - i).toNat | _ => 0) ⟨0, by omega, rfl, ?_⟩ ?_
  · rw [Nat.sub_zero, List.drop_of_length_le (by simp [u8s_len, be_length]), List.append_nil]; exact hA
  · rintro ρ w ⟨i, hi, hs, hA⟩
    have hs' := hs
    simp only [pick, List.cons.injEq, and_true] at hs'
    obtain ⟨h0, h1, h2, h3, h4⟩ := hs'
    simp only [hs, h0, h1, h2, h3, h4]
    repeat' (first | refine Step.out ?_ | refine And.intro (fun h => ?_) (fun h => ?_) | intro _ | refine GW.i64 (by omega) ?_ | refine GW.u32 (by omega) ?_ | refine GW.u64 (by omega) ?_ | refine GW.u8 (by omega) ?_ | refine GW.u16 (by omega) ?_ | refine And.intro rfl ?_ | refine And.intro (by assumption) ?_ | refine And.intro (by omega) ?_ | refine And.intro (by simp only [List.length_append, List.length_replicate, List.length_drop, List.length_take, List.length_cons, List.length_nil, u8s_len, be_length]; omega) ?_ | fail)
    · refine GW.wr ?_
      repeat' (first | refine Step.out ?_ | refine And.intro (fun h => ?_) (fun h => ?_) | intro _ | refine GW.i64 (by omega) ?_ | refine GW.u32 (by omega) ?_ | refine GW.u64 (by omega) ?_ | refine GW.u8 (by omega) ?_ | refine GW.u16 (by omega) ?_ | refine And.intro rfl ?_ | refine And.intro (by assumption) ?_ | refine And.intro (by omega) ?_ | refine And.intro (by simp only [List.length_append, List.length_replicate, List.length_drop, List.length_take, List.length_cons, List.length_nil, u8s_len, be_length]; omega) ?_ | fail)
      refine ⟨⟨i + 1, by omega, by simp, ?_⟩, by simp; omega⟩
      rename_i hA
      rw [show 0 + ((m : Int) - 1 - i).toNat * 1 = m - 1 - i from by omega, cut_set m u i (by omega) _ (cut_byte u i (by omega))] at hA
      exact hA.okey _
    · have e : m - i = 0 := by omega
      rw [e, List.replicate_zero, List.nil_append, List.drop_zero] at hA
      exact hk _ _ (own_slv (hA.owns inferInstance)) (hA.okey _)
instance {v n : Int} [h : At w0 F w L] : Step (Gv Try.prog F_octets_cut #[.int .u32 v, .int .i64 n] w K)
    (((0 ≤ v ∧ v ≤ 4294967295) ∧ 1 ≤ n ∧ n ≤ 4) ∧ ∀ r w', SlV r n.toNat → At w0 F w' ((0, own r n.toNat (u8s (be n.toNat v.toNat)) Y_uint8 1) :: L) → K r w') := ⟨fun ⟨⟨h1, h2⟩, hk⟩ => c_cut h1 h2 h hk⟩

theorem c_Writer_Number {v n : Int} (hv : 0 ≤ v ∧ v ≤ 4294967295) : C1 Try.prog F_octets_Writer_Number #[ptr b, .int .u32 v, .int .i64 n] b (writer W) fun u Y => u = .int .i64 (W.num v n).2 ∧ Y = writer (W.num v n).1 := by
  intro w0 F w hA
  refine ok_octets_Writer_Number ?_
  unfold T_octets_Writer_Number
  repeat' (first | refine Step.out ?_ | refine And.intro (fun h => ?_) (fun h => ?_) | intro _ | refine GW.i64 (by omega) ?_ | refine GW.u32 (by omega) ?_ | refine GW.u64 (by omega) ?_ | refine GW.u8 (by omega) ?_ | refine GW.u16 (by omega) ?_ | refine And.intro rfl ?_ | refine And.intro (by assumption) ?_ | refine And.intro (by omega) ?_ | refine And.intro (by simp only [List.length_append, List.length_replicate, List.length_drop, List.length_take, List.length_cons, List.length_nil, u8s_len, be_length]; omega) ?_ | fail)
  · rw [Wr.num, if_pos (by omega)]; exact ⟨_, ⟨rfl, rfl⟩, ‹_›⟩
  · rw [Wr.num, if_neg (by omega), if_neg ‹_›]; exact ⟨_, ⟨rfl, rfl⟩, ‹_›⟩
  · rename_i h
    have hf := Decidable.not_not.1 h
    have hn : 1 ≤ n ∧ n ≤ 4 := ⟨hf.1, hf.2.1⟩
    repeat' (first | refine Step.out ?_ | refine And.intro (fun h => ?_) (fun h => ?_) | intro _ | refine GW.i64 (by omega) ?_ | refine GW.u32 (by omega) ?_ | refine GW.u64 (by omega) ?_ | refine GW.u8 (by omega) ?_ | refine GW.u16 (by omega) ?_ | refine And.intro rfl ?_ | refine And.intro (by assumption) ?_ | refine And.intro (by omega) ?_ | refine And.intro (by simp only [List.length_append, List.length_replicate, List.length_drop, List.length_take, List.length_cons, List.length_nil, u8s_len, be_length]; omega) ?_ | fail)
    rw [Wr.num, if_neg (by omega), if_pos hf]; exact ⟨_, ⟨rfl, rfl⟩, At.sb ‹_›⟩
instance {v n : Int} [h : At w0 F w L] [r : Rm L b (writer W) L'] : Step (Gv Try.prog F_octets_Writer_Number #[ptr b, .int .u32 v, .int .i64 n] w K)
    ((0 ≤ v ∧ v ≤ 4294967295) ∧ ∀ w', At w0 F w' ((b, writer (W.num v n).1) :: L') → K (.int .i64 (W.num v n).2) w') :=
  ⟨fun ⟨hx, hk⟩ => C1.call (c_Writer_Number hx) h r fun v Y w' hv hA => by obtain ⟨rfl, rfl⟩ := hv; exact hk w' hA⟩

theorem c_Writer_Patch {v n a : Int} (hv : 0 ≤ v ∧ v ≤ 4294967295) : C1 Try.prog F_octets_Writer_Patch #[ptr b, .int .i64 a, .int .u32 v, .int .i64 n] b (writer W) fun u Y => u = .int .i64 (W.patch a v n).2 ∧ Y = writer (W.patch a v n).1 := by
  intro w0 F w hA
  refine ok_octets_Writer_Patch ?_
  unfold T_octets_Writer_Patch
  repeat' (first | refine Step.out ?_ | refine And.intro (fun h => ?_) (fun h => ?_) | intro _ | refine GW.i64 (by omega) ?_ | refine GW.u32 (by omega) ?_ | refine GW.u64 (by omega) ?_ | refine GW.u8 (by omega) ?_ | refine GW.u16 (by omega) ?_ | refine And.intro rfl ?_ | refine And.intro (by assumption) ?_ | refine And.intro (by omega) ?_ | refine And.intro (by simp only [List.length_append, List.length_replicate, List.length_drop, List.length_take, List.length_cons, List.length_nil, u8s_len, be_length]; omega) ?_ | fail)
  · rw [Wr.patch, if_pos (by omega)]; exact ⟨_, ⟨rfl, rfl⟩, ‹_›⟩
  · rw [Wr.patch, if_neg (by omega), if_pos (.inl ‹_›)]; exact ⟨_, ⟨rfl, rfl⟩, ‹_›⟩
  · rw [Wr.patch, if_neg (by omega), if_pos (.inr (.inl ‹_›))]; exact ⟨_, ⟨rfl, rfl⟩, ‹_›⟩
  · have hf := Decidable.not_not.1 (show ¬¬ fits v n by assumption)
    have hn : 1 ≤ n ∧ n ≤ 4 := ⟨hf.1, hf.2.1⟩
    obtain ⟨h1, sv, hsv, hA⟩ := writer_open ‹At w0 F _ [(b, writer W)]›
    have hsv' := hsv.h
    rcases hsv' with ⟨rfl, e⟩ | ⟨g, cap, rfl, hcap⟩
    · repeat' (first | refine Step.out ?_ | refine And.intro (fun h => ?_) (fun h => ?_) | intro _ | refine GW.i64 (by omega) ?_ | refine GW.u32 (by omega) ?_ | refine GW.u64 (by omega) ?_ | refine GW.u8 (by omega) ?_ | refine GW.u16 (by omega) ?_ | refine And.intro rfl ?_ | refine And.intro (by assumption) ?_ | refine And.intro (by omega) ?_ | refine And.intro (by simp only [List.length_append, List.length_replicate, List.length_drop, List.length_take, List.length_cons, List.length_nil, u8s_len, be_length]; omega) ?_ | fail)
      · rw [Wr.patch, if_neg (by omega), if_pos (.inr (.inr (by omega)))]; exact ⟨_, ⟨rfl, rfl⟩, writer_close h1 ‹_›⟩
      · omega
    · repeat' (first | refine Step.out ?_ | refine And.intro (fun h => ?_) (fun h => ?_) | intro _ | refine GW.i64 (by omega) ?_ | refine GW.u32 (by omega) ?_ | refine GW.u64 (by omega) ?_ | refine GW.u8 (by omega) ?_ | refine GW.u16 (by omega) ?_ | refine And.intro rfl ?_ | refine And.intro (by assumption) ?_ | refine And.intro (by omega) ?_ | refine And.intro (by simp only [List.length_append, List.length_replicate, List.length_drop, List.length_take, List.length_cons, List.length_nil, u8s_len, be_length]; omega) ?_ | fail)
      · rw [Wr.patch, if_neg (by omega), if_pos (.inr (.inr (by omega)))]; exact ⟨_, ⟨rfl, rfl⟩, writer_close h1 ‹_›⟩
      refine ⟨⟨by omega, by simp only [u8s_len]; omega, u8s_one _⟩, fun w' hA => ?_⟩
      rw [Wr.patch, if_neg (by omega), if_neg (by rintro (h | h | h) <;> first | omega | exact h hf)]
      simp only [Nat.zero_add, Nat.mul_one, ← u8s_take, ← u8s_drop, ← u8s_append] at hA
      have hl : (W.s.take a.toNat ++ be n.toNat v.toNat ++ W.s.drop (a.toNat + n.toNat)).length = W.s.length := by
        simp only [List.length_append, List.length_take, List.length_drop, be_length]; omega
      have hA2 : At w0 F w' [(b, cells [Value.slice (some { block := g, off := 0 }) W.s.length cap, .int .i64 W.most, .int .i64 W.e] Y_octets_Writer), (0, own (Value.slice (some { block := g, off := 0 }) W.s.length cap) W.s.length (u8s (W.s.take a.toNat ++ be n.toNat v.toNat ++ W.s.drop (a.toNat + n.toNat))) Y_uint8 1)] := hA.sb
      refine ⟨_, ⟨rfl, rfl⟩, writer_close (v := Value.slice (some { block := g, off := 0 }) W.s.length cap) (by simp only [hl]; exact h1) ?_⟩
      simp only [hl]
      exact hA2
instance {v n a : Int} [h : At w0 F w L] [r : Rm L b (writer W) L'] : Step (Gv Try.prog F_octets_Writer_Patch #[ptr b, .int .i64 a, .int .u32 v, .int .i64 n] w K)
    ((0 ≤ v ∧ v ≤ 4294967295) ∧ ∀ w', At w0 F w' ((b, writer (W.patch a v n).1) :: L') → K (.int .i64 (W.patch a v n).2) w') :=
  ⟨fun ⟨hx, hk⟩ => C1.call (c_Writer_Patch hx) h r fun v Y w' hv hA => by obtain ⟨rfl, rfl⟩ := hv; exact hk w' hA⟩

theorem c_NewWriter {m : Int} (hm : m ≤ 65535) (h : At w0 F w L) (hk : ∀ b w', At w0 F w' ((b, writer ⟨[], (max 0 m).toNat, 0⟩) :: L) → K (ptr b) w') : Gv Try.prog F_octets_NewWriter #[.int .i64 m] w K := by
  refine ok_octets_NewWriter ?_
  unfold T_octets_NewWriter
  repeat' (first | refine Step.out ?_ | refine And.intro (fun h => ?_) (fun h => ?_) | intro _ | refine GW.i64 (by omega) ?_ | refine GW.u32 (by omega) ?_ | refine GW.u64 (by omega) ?_ | refine GW.u8 (by omega) ?_ | refine GW.u16 (by omega) ?_ | refine And.intro rfl ?_ | refine And.intro (by assumption) ?_ | refine And.intro (by omega) ?_ | refine And.intro (by simp only [List.length_append, List.length_replicate, List.length_drop, List.length_take, List.length_cons, List.length_nil, u8s_len, be_length]; omega) ?_ | fail)
  rename_i b w' hA
  have hA2 := hA.ownNil Y_uint8 1
  refine hk b w' (writer_close (v := .slice none 0 0) ⟨Nat.zero_le _, by simp only; omega⟩ ?_)
  have e : (((max 0 m).toNat : Nat) : Int) = max 0 m := by omega
  simp only [e]
  exact hA2.perm (List.Perm.swap _ _ _)
instance {m : Int} [h : At w0 F w L] : Step (Gv Try.prog F_octets_NewWriter #[.int .i64 m] w K) (m ≤ 65535 ∧ ∀ b w', At w0 F w' ((b, writer ⟨[], (max 0 m).toNat, 0⟩) :: L) → K (ptr b) w') := ⟨fun ⟨h1, h2⟩ => c_NewWriter h1 h h2⟩
end

def reader (r : Rr) : Ent := puE (cells [str r.s, .int .i64 r.at'] Y_octets_Reader) (r.at' ≤ r.s.length ∧ r.s.length ≤ 1099511627776)
section
variable {w0 w : World} {F : Fp} {L L' : List (Nat × Ent)} {b : Nat} {r : Rr} {K : Value → World → Prop}
theorem reader_open (h : At w0 F w ((b, reader r) :: L)) : (r.at' ≤ r.s.length ∧ r.s.length ≤ 1099511627776) ∧ At w0 F w ((b, cells [str r.s, .int .i64 r.at'] Y_octets_Reader) :: L) := At.puE_iff.1 h
theorem reader_close (h1 : r.at' ≤ r.s.length ∧ r.s.length ≤ 1099511627776) (h : At w0 F w ((b, cells [str r.s, .int .i64 r.at'] Y_octets_Reader) :: L)) : At w0 F w ((b, reader r) :: L) := At.puE_iff.2 ⟨h1, h⟩

instance {s : By} [h : At w0 F w L] : Step (Gv Try.prog F_octets_NewReader #[str s] w K) (s.length ≤ 1099511627776 ∧ ∀ b w', At w0 F w' ((b, reader ⟨s, 0⟩) :: L) → K (ptr b) w') := ⟨fun ⟨hs, hk⟩ => by
  refine ok_octets_NewReader ?_
  unfold T_octets_NewReader
  repeat' (first | refine Step.out ?_ | refine And.intro (fun h => ?_) (fun h => ?_) | intro _ | refine GW.i64 (by omega) ?_ | refine GW.u32 (by omega) ?_ | refine GW.u64 (by omega) ?_ | refine GW.u8 (by omega) ?_ | refine GW.u16 (by omega) ?_ | refine And.intro rfl ?_ | refine And.intro (by assumption) ?_ | refine And.intro (by omega) ?_ | refine And.intro (by simp only [List.length_append, List.length_replicate, List.length_drop, List.length_take, List.length_cons, List.length_nil, u8s_len, be_length]; omega) ?_ | fail)
  exact hk _ _ (reader_close ⟨Nat.zero_le _, hs⟩ ‹_›)⟩
theorem c_place_left : C1 Try.prog F_octets_place_left #[ptr b] b (reader r) fun v Y => v = .int .i64 (r.s.length - r.at') ∧ Y = reader r := by
  intro w0 F w hA
  obtain ⟨h1, hA⟩ := reader_open hA
  refine ok_octets_place_left ?_
  unfold T_octets_place_left
  repeat' (first | refine Step.out ?_ | refine And.intro (fun h => ?_) (fun h => ?_) | intro _ | refine GW.i64 (by omega) ?_ | refine GW.u32 (by omega) ?_ | refine GW.u64 (by omega) ?_ | refine GW.u8 (by omega) ?_ | refine GW.u16 (by omega) ?_ | refine And.intro rfl ?_ | refine And.intro (by assumption) ?_ | refine And.intro (by omega) ?_ | refine And.intro (by simp only [List.length_append, List.length_replicate, List.length_drop, List.length_take, List.length_cons, List.length_nil, u8s_len, be_length]; omega) ?_ | fail)
  exact ⟨_, ⟨rfl, rfl⟩, reader_close h1 ‹_›⟩
instance [h : At w0 F w L] [r' : Rm L b (reader r) L'] : Step (Gv Try.prog F_octets_place_left #[ptr b] w K) (∀ w', At w0 F w' ((b, reader r) :: L') → K (.int .i64 (r.s.length - r.at')) w') :=
  ⟨fun hk => C1.call c_place_left h r' fun v Y w' hv hA => by obtain ⟨rfl, rfl⟩ := hv; exact hk w' hA⟩
theorem c_Reader_At : C1 Try.prog F_octets_Reader_At #[ptr b] b (reader r) fun v Y => v = .int .i64 r.at' ∧ Y = reader r := by
  intro w0 F w hA
  obtain ⟨h1, hA⟩ := reader_open hA
  refine ok_octets_Reader_At ?_
  unfold T_octets_Reader_At
  repeat' (first | refine Step.out ?_ | refine And.intro (fun h => ?_) (fun h => ?_) | intro _ | refine GW.i64 (by omega) ?_ | refine GW.u32 (by omega) ?_ | refine GW.u64 (by omega) ?_ | refine GW.u8 (by omega) ?_ | refine GW.u16 (by omega) ?_ | refine And.intro rfl ?_ | refine And.intro (by assumption) ?_ | refine And.intro (by omega) ?_ | refine And.intro (by simp only [List.length_append, List.length_replicate, List.length_drop, List.length_take, List.length_cons, List.length_nil, u8s_len, be_length]; omega) ?_ | fail)
  exact ⟨_, ⟨rfl, rfl⟩, reader_close h1 ‹_›⟩
instance [h : At w0 F w L] [r' : Rm L b (reader r) L'] : Step (Gv Try.prog F_octets_Reader_At #[ptr b] w K) (∀ w', At w0 F w' ((b, reader r) :: L') → K (.int .i64 r.at') w') :=
  ⟨fun hk => C1.call c_Reader_At h r' fun v Y w' hv hA => by obtain ⟨rfl, rfl⟩ := hv; exact hk w' hA⟩
theorem c_Reader_Left : C1 Try.prog F_octets_Reader_Left #[ptr b] b (reader r) fun v Y => v = .int .i64 (r.s.length - r.at') ∧ Y = reader r := by
  intro w0 F w hA
  refine ok_octets_Reader_Left ?_
  unfold T_octets_Reader_Left
  repeat' (first | refine Step.out ?_ | refine And.intro (fun h => ?_) (fun h => ?_) | intro _ | refine GW.i64 (by omega) ?_ | refine GW.u32 (by omega) ?_ | refine GW.u64 (by omega) ?_ | refine GW.u8 (by omega) ?_ | refine GW.u16 (by omega) ?_ | refine And.intro rfl ?_ | refine And.intro (by assumption) ?_ | refine And.intro (by omega) ?_ | refine And.intro (by simp only [List.length_append, List.length_replicate, List.length_drop, List.length_take, List.length_cons, List.length_nil, u8s_len, be_length]; omega) ?_ | fail)
  exact ⟨_, ⟨rfl, rfl⟩, ‹_›⟩
instance [h : At w0 F w L] [r' : Rm L b (reader r) L'] : Step (Gv Try.prog F_octets_Reader_Left #[ptr b] w K) (∀ w', At w0 F w' ((b, reader r) :: L') → K (.int .i64 (r.s.length - r.at')) w') :=
  ⟨fun hk => C1.call c_Reader_Left h r' fun v Y w' hv hA => by obtain ⟨rfl, rfl⟩ := hv; exact hk w' hA⟩
theorem c_Reader_Take {n : Int} : C1 Try.prog F_octets_Reader_Take #[ptr b, .int .i64 n] b (reader r) fun v Y => v = .tuple #[str (r.take n).2.1, .int .i64 (r.take n).2.2] ∧ Y = reader (r.take n).1 := by
  intro w0 F w hA
  refine ok_octets_Reader_Take ?_
  unfold T_octets_Reader_Take
  repeat' (first | refine Step.out ?_ | refine And.intro (fun h => ?_) (fun h => ?_) | intro _ | refine GW.i64 (by omega) ?_ | refine GW.u32 (by omega) ?_ | refine GW.u64 (by omega) ?_ | refine GW.u8 (by omega) ?_ | refine GW.u16 (by omega) ?_ | refine And.intro rfl ?_ | refine And.intro (by assumption) ?_ | refine And.intro (by omega) ?_ | refine And.intro (by simp only [List.length_append, List.length_replicate, List.length_drop, List.length_take, List.length_cons, List.length_nil, u8s_len, be_length]; omega) ?_ | fail)
  · rw [Rr.take, if_pos (by omega)]; exact ⟨_, ⟨rfl, rfl⟩, ‹_›⟩
  · rw [Rr.take, if_neg (by omega), if_pos (by omega)]; exact ⟨_, ⟨rfl, rfl⟩, ‹_›⟩
  · obtain ⟨h1, hA⟩ := reader_open ‹At w0 F _ [(b, reader r)]›
    repeat' (first | refine Step.out ?_ | refine And.intro (fun h => ?_) (fun h => ?_) | intro _ | refine GW.i64 (by omega) ?_ | refine GW.u32 (by omega) ?_ | refine GW.u64 (by omega) ?_ | refine GW.u8 (by omega) ?_ | refine GW.u16 (by omega) ?_ | refine And.intro rfl ?_ | refine And.intro (by assumption) ?_ | refine And.intro (by omega) ?_ | refine And.intro (by simp only [List.length_append, List.length_replicate, List.length_drop, List.length_take, List.length_cons, List.length_nil, u8s_len, be_length]; omega) ?_ | fail)
    rw [Rr.take, if_neg (by omega), if_neg (by omega)]
    refine ⟨_, ⟨?_, rfl⟩, reader_close (by simp only; omega) ?_⟩
    · rw [show ((r.at' : Int) + n).toNat - (r.at' : Int).toNat = n.toNat from by omega]; rfl
    · simp only
      rw [show ((r.at' + n.toNat : Nat) : Int) = r.at' + n from by omega]
      assumption
instance {n : Int} [h : At w0 F w L] [r' : Rm L b (reader r) L'] : Step (Gv Try.prog F_octets_Reader_Take #[ptr b, .int .i64 n] w K) (∀ w', At w0 F w' ((b, reader (r.take n).1) :: L') → K (.tuple #[str (r.take n).2.1, .int .i64 (r.take n).2.2]) w') :=
  ⟨fun hk => C1.call c_Reader_Take h r' fun v Y w' hv hA => by obtain ⟨rfl, rfl⟩ := hv; exact hk w' hA⟩
theorem c_Reader_Seek {n : Int} : C1 Try.prog F_octets_Reader_Seek #[ptr b, .int .i64 n] b (reader r) fun v Y => v = .int .i64 (r.seek n).2 ∧ Y = reader (r.seek n).1 := by
  intro w0 F w hA
  obtain ⟨h1, hA⟩ := reader_open hA
  refine ok_octets_Reader_Seek ?_
  unfold T_octets_Reader_Seek
  repeat' (first | refine Step.out ?_ | refine And.intro (fun h => ?_) (fun h => ?_) | intro _ | refine GW.i64 (by omega) ?_ | refine GW.u32 (by omega) ?_ | refine GW.u64 (by omega) ?_ | refine GW.u8 (by omega) ?_ | refine GW.u16 (by omega) ?_ | refine And.intro rfl ?_ | refine And.intro (by assumption) ?_ | refine And.intro (by omega) ?_ | refine And.intro (by simp only [List.length_append, List.length_replicate, List.length_drop, List.length_take, List.length_cons, List.length_nil, u8s_len, be_length]; omega) ?_ | fail)
  · rw [Rr.seek, if_pos (by omega)]; exact ⟨_, ⟨rfl, rfl⟩, reader_close h1 ‹_›⟩
  · rw [Rr.seek, if_pos (by omega)]; exact ⟨_, ⟨rfl, rfl⟩, reader_close h1 ‹_›⟩
  · rw [Rr.seek, if_neg (by omega)]
    refine ⟨_, ⟨rfl, rfl⟩, reader_close (by simp only; omega) ?_⟩
    simp only
    rw [show ((n.toNat : Nat) : Int) = n from by omega]
    assumption
instance {n : Int} [h : At w0 F w L] [r' : Rm L b (reader r) L'] : Step (Gv Try.prog F_octets_Reader_Seek #[ptr b, .int .i64 n] w K) (∀ w', At w0 F w' ((b, reader (r.seek n).1) :: L') → K (.int .i64 (r.seek n).2) w') :=
  ⟨fun hk => C1.call c_Reader_Seek h r' fun v Y w' hv hA => by obtain ⟨rfl, rfl⟩ := hv; exact hk w' hA⟩
theorem c_Reader_Number {n : Int} : C1 Try.prog F_octets_Reader_Number #[ptr b, .int .i64 n] b (reader r) fun v Y => v = .tuple #[.int .u32 (r.num n).2.1, .int .i64 (r.num n).2.2] ∧ Y = reader (r.num n).1 := by
  intro w0 F w hA
  refine ok_octets_Reader_Number ?_
  unfold T_octets_Reader_Number
  repeat' (first | refine Step.out ?_ | refine And.intro (fun h => ?_) (fun h => ?_) | intro _ | refine GW.i64 (by omega) ?_ | refine GW.u32 (by omega) ?_ | refine GW.u64 (by omega) ?_ | refine GW.u8 (by omega) ?_ | refine GW.u16 (by omega) ?_ | refine And.intro rfl ?_ | refine And.intro (by assumption) ?_ | refine And.intro (by omega) ?_ | refine And.intro (by simp only [List.length_append, List.length_replicate, List.length_drop, List.length_take, List.length_cons, List.length_nil, u8s_len, be_length]; omega) ?_ | fail)
  refine cutL (fun s w => ∃ q : Bool, (q = true ↔ n < 1 ∨ 4 < n) ∧ s = [ptr b, .int .i64 n, .bool q] ∧ At w0 F w [(b, reader r)]) ?_ ?_
  · repeat' (first | refine Step.out ?_ | refine And.intro (fun h => ?_) (fun h => ?_) | intro _ | refine GW.i64 (by omega) ?_ | refine GW.u32 (by omega) ?_ | refine GW.u64 (by omega) ?_ | refine GW.u8 (by omega) ?_ | refine GW.u16 (by omega) ?_ | refine And.intro rfl ?_ | refine And.intro (by assumption) ?_ | refine And.intro (by omega) ?_ | refine And.intro (by simp only [List.length_append, List.length_replicate, List.length_drop, List.length_take, List.length_cons, List.length_nil, u8s_len, be_length]; omega) ?_ | fail)
    · exact ⟨true, by simp; omega, rfl, ‹_›⟩
    · refine ⟨_, ?_, rfl, ‹_›⟩
      rw [dec_iff]; omega
  · rintro ρ w ⟨q, hq, hs, hA⟩
    simp only [pick, List.cons.injEq, and_true] at hs
    obtain ⟨h0, h1, h2⟩ := hs
    simp only [h0, h1, h2]
    repeat' (first | refine Step.out ?_ | refine And.intro (fun h => ?_) (fun h => ?_) | intro _ | refine GW.i64 (by omega) ?_ | refine GW.u32 (by omega) ?_ | refine GW.u64 (by omega) ?_ | refine GW.u8 (by omega) ?_ | refine GW.u16 (by omega) ?_ | refine And.intro rfl ?_ | refine And.intro (by assumption) ?_ | refine And.intro (by omega) ?_ | refine And.intro (by simp only [List.length_append, List.length_replicate, List.length_drop, List.length_take, List.length_cons, List.length_nil, u8s_len, be_length]; omega) ?_ | fail)
    · rw [Rr.num, if_pos (hq.1 ‹_›)]; exact ⟨_, ⟨rfl, rfl⟩, ‹_›⟩
    · rename_i b' c' w' hc hA'
      have hn : ¬ (n < 1 ∨ 4 < n) := by rw [← hq]; assumption
      have hl : (r.take n).2.1.length ≤ 4 := by
        unfold Rr.take; (repeat' split) <;> simp; omega
      generalize hx : (r.take n).2.1 = x at *
      refine loop (fun s w => ∃ i : Nat, i ≤ x.length ∧ s = [.int .i64 (r.take n).2.2, .int .u32 (val (x.take i)), .slice (some ⟨b', 0, none⟩) x.length c', .int .i64 x.length, .int .i64 i] ∧
          At w0 F w [(b', sl (.slice (some ⟨b', 0, none⟩) x.length c') x.length (u8s x) 1), (b, reader (r.take n).1)])
        (fun s w => match s with | [_, _, _, _, .int _ i] => (x.length - i).toNat | _ => 0) ⟨0, by omega, rfl, hA'⟩ ?_
      rintro ρ w ⟨i, hi, hs, hA⟩
      have hs' := hs
      simp only [pick, List.cons.injEq, and_true] at hs'
      obtain ⟨h0, h1, h2, h3, h4⟩ := hs'
      simp only [hs, h0, h1, h2, h3, h4]
      have hvb : i < x.length → val (x.take i) < 16777216 := fun hlt => by
        have h1 := val_lt (x.take i)
        rw [List.length_take, Nat.min_eq_left hi] at h1
        have h2 : 256 ^ i ≤ 256 ^ 3 := Nat.pow_le_pow_right (by decide) (by omega)
        omega
      repeat' (first | refine Step.out ?_ | refine And.intro (fun h => ?_) (fun h => ?_) | intro _ | refine GW.i64 (by omega) ?_ | refine GW.u32 (by omega) ?_ | refine GW.u64 (by omega) ?_ | refine GW.u8 (by omega) ?_ | refine GW.u16 (by omega) ?_ | refine And.intro rfl ?_ | refine And.intro (by assumption) ?_ | refine And.intro (by omega) ?_ | refine And.intro (by simp only [List.length_append, List.length_replicate, List.length_drop, List.length_take, List.length_cons, List.length_nil, u8s_len, be_length]; omega) ?_ | fail)
      · refine OW.u32 (q := ((val (x.take i) : Nat) : Int)) 8 rfl (Int.natCast_nonneg _) (by omega) (by omega) ?_
        repeat' (first | refine Step.out ?_ | refine And.intro (fun h => ?_) (fun h => ?_) | intro _ | refine GW.i64 (by omega) ?_ | refine GW.u32 (by omega) ?_ | refine GW.u64 (by omega) ?_ | refine GW.u8 (by omega) ?_ | refine GW.u16 (by omega) ?_ | refine And.intro rfl ?_ | refine And.intro (by assumption) ?_ | refine And.intro (by omega) ?_ | refine And.intro (by simp only [List.length_append, List.length_replicate, List.length_drop, List.length_take, List.length_cons, List.length_nil, u8s_len, be_length]; omega) ?_ | fail)
        refine ⟨⟨i + 1, by omega, ?_, ‹_›⟩, by simp only; omega⟩
        rw [val_take_succ x i (by omega)]
        simp
      · have e : x.take i = x := List.take_of_length_le (by omega)
        rw [Rr.num, if_neg hn, e]
        exact ⟨_, ⟨by simp only [hx], rfl⟩, At.sb ‹_›⟩
instance {n : Int} [h : At w0 F w L] [r' : Rm L b (reader r) L'] : Step (Gv Try.prog F_octets_Reader_Number #[ptr b, .int .i64 n] w K) (∀ w', At w0 F w' ((b, reader (r.num n).1) :: L') → K (.tuple #[.int .u32 (r.num n).2.1, .int .i64 (r.num n).2.2]) w') :=
  ⟨fun hk => C1.call c_Reader_Number h r' fun v Y w' hv hA => by obtain ⟨rfl, rfl⟩ := hv; exact hk w' hA⟩
end
end Go.Proofs.Ytkpinncakbnikaa
namespace Go.Proofs.Ytkpinncakbnikaa
open Go Np Go.Proofs
set_option linter.all false
section
variable {w0 w : World} {F : Fp} {L L' : List (Nat × Ent)} {b : Nat} {W : Wr} {K : Value → World → Prop}

theorem c_name_cut (n : By) (hn : n.length ≤ 1048576) (h : At w0 F w L) (hk : ∀ w', At w0 F w' L → K (.tuple #[str (cutN n).1, str (cutN n).2.1, .bool (cutN n).2.2]) w') : Gv Try.prog F_name_cut #[str n] w K := by
  refine ok_name_cut ?_
  unfold T_name_cut
  cases n with
  | nil =>
    repeat' (first | refine Step.out ?_ | refine And.intro (fun h => ?_) (fun h => ?_) | intro _ | refine GW.i64 (by omega) ?_ | refine GW.u32 (by omega) ?_ | refine GW.u64 (by omega) ?_ | refine GW.u8 (by omega) ?_ | refine GW.u16 (by omega) ?_ | refine And.intro rfl ?_ | refine And.intro (by assumption) ?_ | refine And.intro (by omega) ?_ | refine And.intro (by simp only [List.length_append, List.length_replicate, List.length_drop, List.length_take, List.length_cons, List.length_nil, u8s_len, be_length]; omega) ?_ | fail)
    exact hk _ ‹_›
  | cons k r =>
    simp only [List.length_cons] at hn
    repeat' (first | refine Step.out ?_ | refine And.intro (fun h => ?_) (fun h => ?_) | intro _ | refine GW.i64 (by omega) ?_ | refine GW.u32 (by omega) ?_ | refine GW.u64 (by omega) ?_ | refine GW.u8 (by omega) ?_ | refine GW.u16 (by omega) ?_ | refine And.intro rfl ?_ | refine And.intro (by assumption) ?_ | refine And.intro (by omega) ?_ | refine And.intro (by simp only [List.length_append, List.length_replicate, List.length_drop, List.length_take, List.length_cons, List.length_nil, u8s_len, be_length]; omega) ?_ | fail)
    all_goals simp only [cutN, List.length_cons] at *
    · rw [if_pos (by omega)] at hk; exact hk _ ‹_›
    · rw [if_pos (by omega)] at hk; exact hk _ ‹_›
    · rw [if_pos (by omega)] at hk; exact hk _ ‹_›
    · rw [if_neg (by omega)] at hk
      repeat' (first | refine Step.out ?_ | refine And.intro (fun h => ?_) (fun h => ?_) | intro _ | refine GW.i64 (by omega) ?_ | refine GW.u32 (by omega) ?_ | refine GW.u64 (by omega) ?_ | refine GW.u8 (by omega) ?_ | refine GW.u16 (by omega) ?_ | refine And.intro rfl ?_ | refine And.intro (by assumption) ?_ | refine And.intro (by omega) ?_ | refine And.intro (by simp only [List.length_append, List.length_replicate, List.length_drop, List.length_take, List.length_cons, List.length_nil, u8s_len, be_length]; omega) ?_ | fail)
      have e1 : (1 + (k.toNat : Int)).toNat = k.toNat + 1 := by omega
      simp only [e1, Int.toNat_one, List.drop_succ_cons, Nat.add_sub_cancel, List.drop_zero]
      exact hk _ ‹_›
instance {n : By} [h : At w0 F w L] : Step (Gv Try.prog F_name_cut #[str n] w K) (n.length ≤ 1048576 ∧ ∀ w', At w0 F w' L → K (.tuple #[str (cutN n).1, str (cutN n).2.1, .bool (cutN n).2.2]) w') := ⟨fun ⟨h1, h2⟩ => c_name_cut n h1 h h2⟩

theorem c_name_Check (n : By) (hn : n.length ≤ 1099511627776) (h : At w0 F w L) (hk : ∀ w', At w0 F w' L → K (.int .i64 (chkN n)) w') : Gv Try.prog F_name_Check #[str n] w K := by
  refine ok_name_Check ?_
  unfold T_name_Check
  repeat' (first | refine Step.out ?_ | refine And.intro (fun h => ?_) (fun h => ?_) | intro _ | refine GW.i64 (by omega) ?_ | refine GW.u32 (by omega) ?_ | refine GW.u64 (by omega) ?_ | refine GW.u8 (by omega) ?_ | refine GW.u16 (by omega) ?_ | refine And.intro rfl ?_ | refine And.intro (by assumption) ?_ | refine And.intro (by omega) ?_ | refine And.intro (by simp only [List.length_append, List.length_replicate, List.length_drop, List.length_take, List.length_cons, List.length_nil, u8s_len, be_length]; omega) ?_ | fail)
  · rw [chkN, if_pos (by omega)] at hk; exact hk _ ‹_›
  · rw [chkN, if_neg (by omega)] at hk
    refine loop (fun s w => ∃ m : By, m.length ≤ n.length ∧ okN m = okN n ∧ s = [str m] ∧ At w0 F w L) (fun s w => match s with | [.string x] => x.size | _ => 0) ⟨n, Nat.le_refl _, rfl, rfl, ‹_›⟩ ?_
    rintro ρ w ⟨m, hm, hok, hs, hA⟩
    have hs' := hs
    simp only [pick, List.cons.injEq, and_true] at hs'
    simp only [hs, hs']
    repeat' (first | refine Step.out ?_ | refine And.intro (fun h => ?_) (fun h => ?_) | intro _ | refine GW.i64 (by omega) ?_ | refine GW.u32 (by omega) ?_ | refine GW.u64 (by omega) ?_ | refine GW.u8 (by omega) ?_ | refine GW.u16 (by omega) ?_ | refine And.intro rfl ?_ | refine And.intro (by assumption) ?_ | refine And.intro (by omega) ?_ | refine And.intro (by simp only [List.length_append, List.length_replicate, List.length_drop, List.length_take, List.length_cons, List.length_nil, u8s_len, be_length]; omega) ?_ | fail)
    · have hne : m ≠ [] := by assumption
      have hb : ¬ (cutN m).2.2 = true := by assumption
      rw [← hok, cutN_ok m hne, if_neg hb] at hk
      exact hk _ ‹_›
    · have hne : m ≠ [] := by assumption
      have hb := Decidable.not_not.1 (show ¬ ¬ (cutN m).2.2 = true by assumption)
      have hlt := cutN_lt m hb
      refine ⟨⟨(cutN m).2.1, by omega, ?_, rfl, ‹_›⟩, ?_⟩
      · rw [← hok, cutN_ok m hne, if_pos hb]
      · simp only [size_mk]; exact hlt
    · have : m = [] := Decidable.not_not.1 (by assumption)
      subst this
      rw [← hok, okN_nil, if_pos rfl] at hk
      exact hk _ ‹_›
instance {n : By} [h : At w0 F w L] : Step (Gv Try.prog F_name_Check #[str n] w K) (n.length ≤ 1099511627776 ∧ ∀ w', At w0 F w' L → K (.int .i64 (chkN n)) w') := ⟨fun ⟨h1, h2⟩ => c_name_Check n h1 h h2⟩
instance {n : By} [h : At w0 F w L] : Step (Gv Try.prog F_pack_Size #[str n] w K) (n.length ≤ 1099511627776 ∧ ∀ w', At w0 F w' L → K (.int .i64 (sizeN n)) w') := ⟨fun ⟨h1, hk⟩ => by
  refine ok_pack_Size ?_
  unfold T_pack_Size
  repeat' (first | refine Step.out ?_ | refine And.intro (fun h => ?_) (fun h => ?_) | intro _ | refine GW.i64 (by omega) ?_ | refine GW.u32 (by omega) ?_ | refine GW.u64 (by omega) ?_ | refine GW.u8 (by omega) ?_ | refine GW.u16 (by omega) ?_ | refine And.intro rfl ?_ | refine And.intro (by assumption) ?_ | refine And.intro (by omega) ?_ | refine And.intro (by simp only [List.length_append, List.length_replicate, List.length_drop, List.length_take, List.length_cons, List.length_nil, u8s_len, be_length]; omega) ?_ | fail)
  · rw [sizeN, if_pos (by omega)] at hk; exact hk _ ‹_›
  · rw [sizeN, if_neg (by omega)] at hk; exact hk _ ‹_›⟩
end

def ints (l : List Nat) : List Value := l.map fun (a : Nat) => Value.int .i64 (a : Int)
structure PkOk (p : Pk) (m : List (By × Value)) : Prop where
  lk : ∀ n : By, Np.look m n = (p.rests n).map fun (a : Nat) => Value.int .i64 (a : Int)
  far : ∀ n a, p.rests n = some a → a < 16384
  room : 2 * p.begun.length ≤ p.w.s.length
  pend : ∀ a ∈ p.begun, a + 2 ≤ p.w.s.length
def packer (p : Pk) : Ent := exE fun bw : Nat => exE fun bm : Nat => exE fun sv : Value => exE fun m : List (By × Value) =>
  puE (andE (andE (andE (cells [ptr bw, .map (some bm), sv] Y_pack_Packer) bw (writer p.w)) bm (mapE str m)) 0 (own sv p.begun.length (ints p.begun) Y_int 1)) (PkOk p m)
section
variable {w0 w : World} {F : Fp} {L L' : List (Nat × Ent)} {b : Nat} {p : Pk} {K : Value → World → Prop}
theorem packer_open (h : At w0 F w ((b, packer p) :: L)) : (p.w.s.length ≤ p.w.most ∧ p.w.most ≤ 65535) ∧ ∃ bw bm sv m, PkOk p m ∧ SlV sv p.begun.length ∧
    At w0 F w ((b, cells [ptr bw, .map (some bm), sv] Y_pack_Packer) :: (bw, writer p.w) :: (bm, mapE str m) :: (0, own sv p.begun.length (ints p.begun) Y_int 1) :: L) := by
  obtain ⟨bw, h⟩ := At.exE_iff.1 h
  obtain ⟨bm, h⟩ := At.exE_iff.1 h
  obtain ⟨sv, h⟩ := At.exE_iff.1 h
  obtain ⟨m, h⟩ := At.exE_iff.1 h
  obtain ⟨h1, h⟩ := At.puE_iff.1 h
  have h := At.andE_iff.1 (At.andE_iff.1 (At.andE_iff.1 h))
  have hs : SlV sv p.begun.length := own_slv (h.owns inferInstance)
  exact ⟨(writer_open (h.perm (List.Perm.swap _ _ _))).1, bw, bm, sv, m, h1, hs, h⟩
theorem packer_close' {W : Wr} {rests : By → Option Nat} {begun : List Nat} {bw bm : Nat} {sv : Value} {m : List (By × Value)} (h1 : PkOk ⟨W, rests, begun⟩ m)
    (h : At w0 F w ((b, cells [ptr bw, .map (some bm), sv] Y_pack_Packer) :: (bw, writer W) :: (bm, mapE str m) :: (0, own sv begun.length (ints begun) Y_int 1) :: L)) : At w0 F w ((b, packer ⟨W, rests, begun⟩) :: L) :=
  At.exE_iff.2 ⟨bw, At.exE_iff.2 ⟨bm, At.exE_iff.2 ⟨sv, At.exE_iff.2 ⟨m, At.puE_iff.2 ⟨h1, At.andE_iff.2 (At.andE_iff.2 (At.andE_iff.2 h))⟩⟩⟩⟩⟩
theorem packer_close {bw bm : Nat} {sv : Value} {m : List (By × Value)} (h1 : PkOk p m)
    (h : At w0 F w ((b, cells [ptr bw, .map (some bm), sv] Y_pack_Packer) :: (bw, writer p.w) :: (bm, mapE str m) :: (0, own sv p.begun.length (ints p.begun) Y_int 1) :: L)) : At w0 F w ((b, packer p) :: L) :=
  At.exE_iff.2 ⟨bw, At.exE_iff.2 ⟨bm, At.exE_iff.2 ⟨sv, At.exE_iff.2 ⟨m, At.puE_iff.2 ⟨h1, At.andE_iff.2 (At.andE_iff.2 (At.andE_iff.2 h))⟩⟩⟩⟩⟩
end
end Go.Proofs.Ytkpinncakbnikaa
namespace Go.Proofs.Ytkpinncakbnikaa
open Go Np Go.Proofs
set_option linter.all false
theorem PkOk.mono {p : Pk} {m : List (By × Value)} (h : PkOk p m) {W : Wr} (hl : p.w.s.length ≤ W.s.length) : PkOk { p with w := W } m :=
  ⟨h.lk, h.far, Nat.le_trans h.room hl, fun a ha => Nat.le_trans (h.pend a ha) hl⟩
section
variable {w0 w : World} {F : Fp} {L L' : List (Nat × Ent)} {b : Nat} {p : Pk} {K : Value → World → Prop}

theorem c_Packer_Put {x : By} (hx : x.length ≤ 1048576) : C1 Try.prog F_pack_Packer_Put #[ptr b, str x] b (packer p) fun v Y => v = .int .i64 (p.put x).2 ∧ Y = packer (p.put x).1 := by
  intro w0 F w hA
  obtain ⟨hm, bw, bm, sv, m, h1, hs, hA⟩ := packer_open hA
  refine ok_pack_Packer_Put ?_
  unfold T_pack_Packer_Put
  repeat' (first | refine Step.out ?_ | refine And.intro (fun h => ?_) (fun h => ?_) | intro _ | refine GW.i64 (by omega) ?_ | refine GW.u32 (by omega) ?_ | refine GW.u64 (by omega) ?_ | refine GW.u8 (by omega) ?_ | refine GW.u16 (by omega) ?_ | refine And.intro rfl ?_ | refine And.intro (by assumption) ?_ | refine And.intro (by omega) ?_ | refine And.intro (by simp only [List.length_append, List.length_replicate, List.length_drop, List.length_take, List.length_cons, List.length_nil, u8s_len, be_length]; omega) ?_ | fail)
  exact ⟨_, ⟨rfl, rfl⟩, packer_close (bw := bw) (bm := bm) (sv := sv) (h1.mono (Wr.put_len _ _)) (At.pm ‹_›)⟩
instance {x : By} [h : At w0 F w L] [r : Rm L b (packer p) L'] : Step (Gv Try.prog F_pack_Packer_Put #[ptr b, str x] w K) (x.length ≤ 1048576 ∧ ∀ w', At w0 F w' ((b, packer (p.put x).1) :: L') → K (.int .i64 (p.put x).2) w') :=
  ⟨fun ⟨hx, hk⟩ => C1.call (c_Packer_Put hx) h r fun v Y w' hv hA => by obtain ⟨rfl, rfl⟩ := hv; exact hk w' hA⟩

theorem c_Packer_Number {v n : Int} (hv : 0 ≤ v ∧ v ≤ 4294967295) : C1 Try.prog F_pack_Packer_Number #[ptr b, .int .u32 v, .int .i64 n] b (packer p) fun u Y => u = .int .i64 (p.num v n).2 ∧ Y = packer (p.num v n).1 := by
  intro w0 F w hA
  obtain ⟨hm, bw, bm, sv, m, h1, hs, hA⟩ := packer_open hA
  refine ok_pack_Packer_Number ?_
  unfold T_pack_Packer_Number
  repeat' (first | refine Step.out ?_ | refine And.intro (fun h => ?_) (fun h => ?_) | intro _ | refine GW.i64 (by omega) ?_ | refine GW.u32 (by omega) ?_ | refine GW.u64 (by omega) ?_ | refine GW.u8 (by omega) ?_ | refine GW.u16 (by omega) ?_ | refine And.intro rfl ?_ | refine And.intro (by assumption) ?_ | refine And.intro (by omega) ?_ | refine And.intro (by simp only [List.length_append, List.length_replicate, List.length_drop, List.length_take, List.length_cons, List.length_nil, u8s_len, be_length]; omega) ?_ | fail)
  exact ⟨_, ⟨rfl, rfl⟩, packer_close (bw := bw) (bm := bm) (sv := sv) (h1.mono (Wr.num_len _ _ _)) (At.pm ‹_›)⟩
instance {v n : Int} [h : At w0 F w L] [r : Rm L b (packer p) L'] : Step (Gv Try.prog F_pack_Packer_Number #[ptr b, .int .u32 v, .int .i64 n] w K)
    ((0 ≤ v ∧ v ≤ 4294967295) ∧ ∀ w', At w0 F w' ((b, packer (p.num v n).1) :: L') → K (.int .i64 (p.num v n).2) w') :=
  ⟨fun ⟨hx, hk⟩ => C1.call (c_Packer_Number hx) h r fun v Y w' hv hA => by obtain ⟨rfl, rfl⟩ := hv; exact hk w' hA⟩

theorem c_Packer_Err : C1 Try.prog F_pack_Packer_Err #[ptr b] b (packer p) fun u Y => u = .int .i64 p.w.e ∧ Y = packer p := by
  intro w0 F w hA
  obtain ⟨hm, bw, bm, sv, m, h1, hs, hA⟩ := packer_open hA
  refine ok_pack_Packer_Err ?_
  unfold T_pack_Packer_Err
  repeat' (first | refine Step.out ?_ | refine And.intro (fun h => ?_) (fun h => ?_) | intro _ | refine GW.i64 (by omega) ?_ | refine GW.u32 (by omega) ?_ | refine GW.u64 (by omega) ?_ | refine GW.u8 (by omega) ?_ | refine GW.u16 (by omega) ?_ | refine And.intro rfl ?_ | refine And.intro (by assumption) ?_ | refine And.intro (by omega) ?_ | refine And.intro (by simp only [List.length_append, List.length_replicate, List.length_drop, List.length_take, List.length_cons, List.length_nil, u8s_len, be_length]; omega) ?_ | fail)
  exact ⟨_, ⟨rfl, rfl⟩, packer_close (bw := bw) (bm := bm) (sv := sv) h1 (At.pm ‹_›)⟩
instance [h : At w0 F w L] [r : Rm L b (packer p) L'] : Step (Gv Try.prog F_pack_Packer_Err #[ptr b] w K) (∀ w', At w0 F w' ((b, packer p) :: L') → K (.int .i64 p.w.e) w') :=
  ⟨fun hk => C1.call c_Packer_Err h r fun v Y w' hv hA => by obtain ⟨rfl, rfl⟩ := hv; exact hk w' hA⟩
theorem c_Packer_Len : C1 Try.prog F_pack_Packer_Len #[ptr b] b (packer p) fun u Y => u = .int .i64 p.w.s.length ∧ Y = packer p := by
  intro w0 F w hA
  obtain ⟨hm, bw, bm, sv, m, h1, hs, hA⟩ := packer_open hA
  refine ok_pack_Packer_Len ?_
  unfold T_pack_Packer_Len
  repeat' (first | refine Step.out ?_ | refine And.intro (fun h => ?_) (fun h => ?_) | intro _ | refine GW.i64 (by omega) ?_ | refine GW.u32 (by omega) ?_ | refine GW.u64 (by omega) ?_ | refine GW.u8 (by omega) ?_ | refine GW.u16 (by omega) ?_ | refine And.intro rfl ?_ | refine And.intro (by assumption) ?_ | refine And.intro (by omega) ?_ | refine And.intro (by simp only [List.length_append, List.length_replicate, List.length_drop, List.length_take, List.length_cons, List.length_nil, u8s_len, be_length]; omega) ?_ | fail)
  exact ⟨_, ⟨rfl, rfl⟩, packer_close (bw := bw) (bm := bm) (sv := sv) h1 (At.pm ‹_›)⟩
instance [h : At w0 F w L] [r : Rm L b (packer p) L'] : Step (Gv Try.prog F_pack_Packer_Len #[ptr b] w K) (∀ w', At w0 F w' ((b, packer p) :: L') → K (.int .i64 p.w.s.length) w') :=
  ⟨fun hk => C1.call c_Packer_Len h r fun v Y w' hv hA => by obtain ⟨rfl, rfl⟩ := hv; exact hk w' hA⟩
theorem c_Packer_Text : C1 Try.prog F_pack_Packer_Text #[ptr b] b (packer p) fun u Y => u = str p.w.s ∧ Y = packer p := by
  intro w0 F w hA
  obtain ⟨hm, bw, bm, sv, m, h1, hs, hA⟩ := packer_open hA
  refine ok_pack_Packer_Text ?_
  unfold T_pack_Packer_Text
  repeat' (first | refine Step.out ?_ | refine And.intro (fun h => ?_) (fun h => ?_) | intro _ | refine GW.i64 (by omega) ?_ | refine GW.u32 (by omega) ?_ | refine GW.u64 (by omega) ?_ | refine GW.u8 (by omega) ?_ | refine GW.u16 (by omega) ?_ | refine And.intro rfl ?_ | refine And.intro (by assumption) ?_ | refine And.intro (by omega) ?_ | refine And.intro (by simp only [List.length_append, List.length_replicate, List.length_drop, List.length_take, List.length_cons, List.length_nil, u8s_len, be_length]; omega) ?_ | fail)
  exact ⟨_, ⟨rfl, rfl⟩, packer_close (bw := bw) (bm := bm) (sv := sv) h1 (At.pm ‹_›)⟩
instance [h : At w0 F w L] [r : Rm L b (packer p) L'] : Step (Gv Try.prog F_pack_Packer_Text #[ptr b] w K) (∀ w', At w0 F w' ((b, packer p) :: L') → K (str p.w.s) w') :=
  ⟨fun hk => C1.call c_Packer_Text h r fun v Y w' hv hA => by obtain ⟨rfl, rfl⟩ := hv; exact hk w' hA⟩

instance {v : Int} [h : At w0 F w L] : Step (Gv Try.prog F_pack_New #[.int .i64 v] w K) (∀ b w', At w0 F w' ((b, packer ⟨⟨[], (max 0 (min v 65535)).toNat, 0⟩, fun _ => none, []⟩) :: L) → K (ptr b) w') := ⟨fun hk => by
  refine ok_pack_New ?_
  unfold T_pack_New
  repeat' (first | refine Step.out ?_ | refine And.intro (fun h => ?_) (fun h => ?_) | intro _ | refine GW.i64 (by omega) ?_ | refine GW.u32 (by omega) ?_ | refine GW.u64 (by omega) ?_ | refine GW.u8 (by omega) ?_ | refine GW.u16 (by omega) ?_ | refine And.intro rfl ?_ | refine And.intro (by assumption) ?_ | refine And.intro (by omega) ?_ | refine And.intro (by simp only [List.length_append, List.length_replicate, List.length_drop, List.length_take, List.length_cons, List.length_nil, u8s_len, be_length]; omega) ?_ | fail)
  rename_i b1 w1 a1 b2 w2 a2
  have a3 : At w0 F w2 ((0, own (.slice none 0 0) ([] : List Nat).length (ints []) Y_int 1) :: _) := (a2 (κ := By) str).ownNil Y_int 1
  repeat' (first | refine Step.out ?_ | refine And.intro (fun h => ?_) (fun h => ?_) | intro _ | refine GW.i64 (by omega) ?_ | refine GW.u32 (by omega) ?_ | refine GW.u64 (by omega) ?_ | refine GW.u8 (by omega) ?_ | refine GW.u16 (by omega) ?_ | refine And.intro rfl ?_ | refine And.intro (by assumption) ?_ | refine And.intro (by omega) ?_ | refine And.intro (by simp only [List.length_append, List.length_replicate, List.length_drop, List.length_take, List.length_cons, List.length_nil, u8s_len, be_length]; omega) ?_ | fail)
  exact hk _ _ (packer_close' (bw := b1) (bm := b2) (sv := .slice none 0 0) (m := []) ⟨fun n => rfl, (fun n a h => by cases h), Nat.zero_le _, fun a h => by cases h⟩ (At.pm ‹_›))⟩

theorem c_Packer_ready {n : By} (hn : n.length ≤ 1048576) : C1 Try.prog F_pack_Packer_ready #[ptr b, str n] b (packer p) fun u Y => u = .int .i64 (p.ready n) ∧ Y = packer p := by
  intro w0 F w hA
  refine ok_pack_Packer_ready ?_
  unfold T_pack_Packer_ready
  repeat' (first | refine Step.out ?_ | refine And.intro (fun h => ?_) (fun h => ?_) | intro _ | refine GW.i64 (by omega) ?_ | refine GW.u32 (by omega) ?_ | refine GW.u64 (by omega) ?_ | refine GW.u8 (by omega) ?_ | refine GW.u16 (by omega) ?_ | refine And.intro rfl ?_ | refine And.intro (by assumption) ?_ | refine And.intro (by omega) ?_ | refine And.intro (by simp only [List.length_append, List.length_replicate, List.length_drop, List.length_take, List.length_cons, List.length_nil, u8s_len, be_length]; omega) ?_ | fail)
  · rw [Pk.ready, if_pos (by omega)]; exact ⟨_, ⟨rfl, rfl⟩, ‹_›⟩
  · rw [Pk.ready, if_neg (by omega)]; exact ⟨_, ⟨rfl, rfl⟩, ‹_›⟩
instance {n : By} [h : At w0 F w L] [r : Rm L b (packer p) L'] : Step (Gv Try.prog F_pack_Packer_ready #[ptr b, str n] w K) (n.length ≤ 1048576 ∧ ∀ w', At w0 F w' ((b, packer p) :: L') → K (.int .i64 (p.ready n)) w') :=
  ⟨fun ⟨hn, hk⟩ => C1.call (c_Packer_ready hn) h r fun v Y w' hv hA => by obtain ⟨rfl, rfl⟩ := hv; exact hk w' hA⟩

theorem c_Packer_Plain {n : By} (hn : n.length ≤ 1048576) : C1 Try.prog F_pack_Packer_Plain #[ptr b, str n] b (packer p) fun u Y => u = .int .i64 (p.plain n).2 ∧ Y = packer (p.plain n).1 := by
  intro w0 F w hA
  refine ok_pack_Packer_Plain ?_
  unfold T_pack_Packer_Plain
  repeat' (first | refine Step.out ?_ | refine And.intro (fun h => ?_) (fun h => ?_) | intro _ | refine GW.i64 (by omega) ?_ | refine GW.u32 (by omega) ?_ | refine GW.u64 (by omega) ?_ | refine GW.u8 (by omega) ?_ | refine GW.u16 (by omega) ?_ | refine And.intro rfl ?_ | refine And.intro (by assumption) ?_ | refine And.intro (by omega) ?_ | refine And.intro (by simp only [List.length_append, List.length_replicate, List.length_drop, List.length_take, List.length_cons, List.length_nil, u8s_len, be_length]; omega) ?_ | fail)
  · rw [Pk.plain, if_pos (by omega)]; exact ⟨_, ⟨rfl, rfl⟩, ‹_›⟩
  · obtain ⟨hm, bw, bm, sv, m, h1, hs, hA⟩ := packer_open ‹At w0 F _ [(b, packer p)]›
    have h254 := Pk.ready_ok (Decidable.not_not.1 ‹¬ ¬ p.ready n = 0›)
    repeat' (first | refine Step.out ?_ | refine And.intro (fun h => ?_) (fun h => ?_) | intro _ | refine GW.i64 (by omega) ?_ | refine GW.u32 (by omega) ?_ | refine GW.u64 (by omega) ?_ | refine GW.u8 (by omega) ?_ | refine GW.u16 (by omega) ?_ | refine And.intro rfl ?_ | refine And.intro (by assumption) ?_ | refine And.intro (by omega) ?_ | refine And.intro (by simp only [List.length_append, List.length_replicate, List.length_drop, List.length_take, List.length_cons, List.length_nil, u8s_len, be_length]; omega) ?_ | fail)
    rw [Pk.plain, if_neg (by omega)]
    exact ⟨_, ⟨rfl, rfl⟩, packer_close (bw := bw) (bm := bm) (sv := sv) (h1.mono (Wr.put_len _ _)) (At.pm ‹_›)⟩
instance {n : By} [h : At w0 F w L] [r : Rm L b (packer p) L'] : Step (Gv Try.prog F_pack_Packer_Plain #[ptr b, str n] w K) (n.length ≤ 1048576 ∧ ∀ w', At w0 F w' ((b, packer (p.plain n).1) :: L') → K (.int .i64 (p.plain n).2) w') :=
  ⟨fun ⟨hn, hk⟩ => C1.call (c_Packer_Plain hn) h r fun v Y w' hv hA => by obtain ⟨rfl, rfl⟩ := hv; exact hk w' hA⟩

instance {a n : Nat} {x y sv : Value} {xs : List Value} {L2 L3 : List (Nat × Ent)} [h : At w0 F w L] [r : Rm L b (cells [x, y, sv] Y_pack_Packer) L2] [rv : RmV L2 sv n xs Y_int 1 L3] : Step (Gv Try.prog F_pack_stack_push #[.pointer (some ⟨b, 2, none⟩), .int .i64 a] w K)
    (n ≤ 1048576 ∧ ∀ sv' w', SlV sv' (n + 1) → At w0 F w' ((b, cells [x, y, sv'] Y_pack_Packer) :: (0, own sv' (n + 1) (xs ++ [.int .i64 a]) Y_int 1) :: L3) → K (.tuple #[]) w') := ⟨fun ⟨hn, hk⟩ => by
  obtain ⟨k, hp⟩ := rv.perm
  have hA : At w0 F w ((b, cells [x, y, sv] Y_pack_Packer) :: (0, own sv n xs Y_int 1) :: L3) := (((h.perm (r.perm.trans ((hp.cons _).trans (List.Perm.swap _ _ _)))).okey 0)).perm (List.Perm.swap _ _ _)
  have hs : SlV sv n := own_slv (hA.owns inferInstance)
  clear h rv r
  refine ok_pack_stack_push ?_
  unfold T_pack_stack_push
  repeat' (first | refine Step.out ?_ | refine And.intro (fun h => ?_) (fun h => ?_) | intro _ | refine GW.i64 (by omega) ?_ | refine GW.u32 (by omega) ?_ | refine GW.u64 (by omega) ?_ | refine GW.u8 (by omega) ?_ | refine GW.u16 (by omega) ?_ | refine And.intro rfl ?_ | refine And.intro (by assumption) ?_ | refine And.intro (by omega) ?_ | refine And.intro (by simp only [List.length_append, List.length_replicate, List.length_drop, List.length_take, List.length_cons, List.length_nil, u8s_len, be_length]; omega) ?_ | fail)
  try refine And.intro ⟨by omega, by omega⟩ ?_
  repeat' (first | refine Step.out ?_ | refine And.intro (fun h => ?_) (fun h => ?_) | intro _ | refine GW.i64 (by omega) ?_ | refine GW.u32 (by omega) ?_ | refine GW.u64 (by omega) ?_ | refine GW.u8 (by omega) ?_ | refine GW.u16 (by omega) ?_ | refine And.intro rfl ?_ | refine And.intro (by assumption) ?_ | refine And.intro (by omega) ?_ | refine And.intro (by simp only [List.length_append, List.length_replicate, List.length_drop, List.length_take, List.length_cons, List.length_nil, u8s_len, be_length]; omega) ?_ | fail)
  exact hk _ _ ‹_› (At.sb ‹_›)⟩

theorem c_Packer_Begin : C1 Try.prog F_pack_Packer_Begin #[ptr b] b (packer p) fun u Y => u = .tuple #[.int .i64 p.begin.2.1, .int .i64 p.begin.2.2] ∧ Y = packer p.begin.1 := by
  intro w0 F w hA
  obtain ⟨hm, bw, bm, sv, m, h1, hs, hA⟩ := packer_open hA
  refine ok_pack_Packer_Begin ?_
  unfold T_pack_Packer_Begin
  repeat' (first | refine Step.out ?_ | refine And.intro (fun h => ?_) (fun h => ?_) | intro _ | refine GW.i64 (by omega) ?_ | refine GW.u32 (by omega) ?_ | refine GW.u64 (by omega) ?_ | refine GW.u8 (by omega) ?_ | refine GW.u16 (by omega) ?_ | refine And.intro rfl ?_ | refine And.intro (by assumption) ?_ | refine And.intro (by omega) ?_ | refine And.intro (by simp only [List.length_append, List.length_replicate, List.length_drop, List.length_take, List.length_cons, List.length_nil, u8s_len, be_length]; omega) ?_ | fail)
  · rw [Pk.begin, if_pos (by assumption)]; exact ⟨_, ⟨rfl, rfl⟩, packer_close (bw := bw) (bm := bm) (sv := sv) (h1.mono (Wr.num_len _ _ _)) (At.pm ‹_›)⟩
  · have h2 := h1.room
    repeat' (first | refine Step.out ?_ | refine And.intro (fun h => ?_) (fun h => ?_) | intro _ | refine GW.i64 (by omega) ?_ | refine GW.u32 (by omega) ?_ | refine GW.u64 (by omega) ?_ | refine GW.u8 (by omega) ?_ | refine GW.u16 (by omega) ?_ | refine And.intro rfl ?_ | refine And.intro (by assumption) ?_ | refine And.intro (by omega) ?_ | refine And.intro (by simp only [List.length_append, List.length_replicate, List.length_drop, List.length_take, List.length_cons, List.length_nil, u8s_len, be_length]; omega) ?_ | fail)
    obtain ⟨e1, e2, e3, e4⟩ := Wr.num_ok (Decidable.not_not.1 (show ¬ ¬ (p.w.num 0 2).2 = 0 by assumption))
    have hl : (p.w.num 0 2).1.s.length = p.w.s.length + 2 := by rw [e4]; simp [be_length]
    rw [Pk.begin, if_neg (by assumption)]
    rename_i sv' w' hsv' hA'
    refine ⟨_, ⟨rfl, rfl⟩, packer_close' (bw := bw) (bm := bm) (m := m) (sv := sv') ⟨h1.lk, h1.far, by simp only [List.length_append, List.length_cons, List.length_nil]; omega, ?_⟩ ?_⟩
    · intro a ha
      rcases List.mem_append.1 ha with ha | ha
      · have := h1.pend a ha; simp only; omega
      · simp only [List.mem_singleton] at ha; subst ha; simp only; omega
    · have e : ints (p.begun ++ [p.w.s.length]) = ints p.begun ++ [.int .i64 (p.w.s.length : Int)] := by simp [ints]
      simp only [List.length_append, List.length_cons, List.length_nil, Nat.zero_add, e]
      exact At.pm hA'
instance [h : At w0 F w L] [r : Rm L b (packer p) L'] : Step (Gv Try.prog F_pack_Packer_Begin #[ptr b] w K) (∀ w', At w0 F w' ((b, packer p.begin.1) :: L') → K (.tuple #[.int .i64 p.begin.2.1, .int .i64 p.begin.2.2]) w') :=
  ⟨fun hk => C1.call c_Packer_Begin h r fun v Y w' hv hA => by obtain ⟨rfl, rfl⟩ := hv; exact hk w' hA⟩

/-- 'pop', where the last one is that -/
instance {a : Int} {n : Nat} {x y sv : Value} {l : List Nat} {L2 L3 : List (Nat × Ent)} [h : At w0 F w L] [r : Rm L b (cells [x, y, sv] Y_pack_Packer) L2] [rv : RmV L2 sv n (ints l) Y_int 1 L3] : Step (Gv Try.prog F_pack_stack_pop #[.pointer (some ⟨b, 2, none⟩), .int .i64 a] w K)
    (n ≤ 1048576 ∧ (∀ c, l.getLast? = some c → (c : Int) = a → ∀ sv' w', SlV sv' (n - 1) → At w0 F w' ((b, cells [x, y, sv'] Y_pack_Packer) :: (0, own sv' (n - 1) (ints l.dropLast) Y_int 1) :: L3) → K (.bool true) w') ∧
      ((∀ c, l.getLast? = some c → (c : Int) ≠ a) → ∀ w', At w0 F w' ((b, cells [x, y, sv] Y_pack_Packer) :: (0, own sv n (ints l) Y_int 1) :: L3) → K (.bool false) w')) := ⟨fun ⟨hn, hk1, hk2⟩ => by
  obtain ⟨k, hp⟩ := rv.perm
  have hA : At w0 F w ((b, cells [x, y, sv] Y_pack_Packer) :: (0, own sv n (ints l) Y_int 1) :: L3) := (((h.perm (r.perm.trans ((hp.cons _).trans (List.Perm.swap _ _ _)))).okey 0)).perm (List.Perm.swap _ _ _)
  have ho := hA.owns (inferInstance : RmV _ sv n (ints l) Y_int 1 _)
  have hs : SlV sv n := own_slv ho
  have hln : l.length = n := by have := ho.1; simpa [ints] using this
  clear h rv r
  refine ok_pack_stack_pop ?_
  unfold T_pack_stack_pop
  rcases hs.h with ⟨rfl, rfl⟩ | ⟨g, cap, rfl, hc⟩
  · repeat' (first | refine Step.out ?_ | refine And.intro (fun h => ?_) (fun h => ?_) | intro _ | refine GW.i64 (by omega) ?_ | refine GW.u32 (by omega) ?_ | refine GW.u64 (by omega) ?_ | refine GW.u8 (by omega) ?_ | refine GW.u16 (by omega) ?_ | refine And.intro rfl ?_ | refine And.intro (by assumption) ?_ | refine And.intro (by omega) ?_ | refine And.intro (by simp only [List.length_append, List.length_replicate, List.length_drop, List.length_take, List.length_cons, List.length_nil, u8s_len, be_length]; omega) ?_ | fail)
    · have : l = [] := List.length_eq_zero_iff.1 hln
      subst this
      exact hk2 (fun c hc => by cases hc) _ ‹_›
    all_goals omega
  · repeat' (first | refine Step.out ?_ | refine And.intro (fun h => ?_) (fun h => ?_) | intro _ | refine GW.i64 (by omega) ?_ | refine GW.u32 (by omega) ?_ | refine GW.u64 (by omega) ?_ | refine GW.u8 (by omega) ?_ | refine GW.u16 (by omega) ?_ | refine And.intro rfl ?_ | refine And.intro (by assumption) ?_ | refine And.intro (by omega) ?_ | refine And.intro (by simp only [List.length_append, List.length_replicate, List.length_drop, List.length_take, List.length_cons, List.length_nil, u8s_len, be_length]; omega) ?_ | fail)
    · have : l = [] := List.length_eq_zero_iff.1 (by omega)
      subst this
      exact hk2 (fun c hc => by cases hc) _ ‹_›
    · have hne : l ≠ [] := by rintro rfl; simp at hln; omega
      obtain ⟨l', c, rfl⟩ : ∃ l' c, l = l' ++ [c] := ⟨l.dropLast, l.getLast hne, (List.dropLast_concat_getLast hne).symm⟩
      have hl' : n = l'.length + 1 := by simpa using hln.symm
      subst hl'
      have e1 : 0 + (((l'.length + 1 : Nat) : Int) - 1).toNat * 1 = l'.length := by omega
      have e2 : (ints (l' ++ [c])).getD (0 + (((l'.length + 1 : Nat) : Int) - 1).toNat * 1) undef = .int .i64 (c : Int) := by rw [e1]; simp [ints]
      refine And.intro (by rw [e1]; simp [ints]) ?_
      rw [e2]
      repeat' (first | refine Step.out ?_ | refine And.intro (fun h => ?_) (fun h => ?_) | intro _ | refine GW.i64 (by omega) ?_ | refine GW.u32 (by omega) ?_ | refine GW.u64 (by omega) ?_ | refine GW.u8 (by omega) ?_ | refine GW.u16 (by omega) ?_ | refine And.intro rfl ?_ | refine And.intro (by assumption) ?_ | refine And.intro (by omega) ?_ | refine And.intro (by simp only [List.length_append, List.length_replicate, List.length_drop, List.length_take, List.length_cons, List.length_nil, u8s_len, be_length]; omega) ?_ | fail)
      · exact hk2 (fun c' hc' => by simp at hc'; subst hc'; assumption) _ ‹_›
      · rename_i hA
        have hA := hA.perm (List.Perm.swap _ _ _)
        have hA := (hA.ownTake (m := l'.length) (by omega)).perm (List.Perm.swap _ _ _)
        have e3 : (ints (l' ++ [c])).take (l'.length * 1) = ints (l' ++ [c]).dropLast := by simp [ints]
        have e4 : (((l'.length + 1 : Nat) : Int) - 1).toNat = l'.length := by omega
        rw [e3] at hA
        rw [e4] at hA
        exact hk1 c (by simp) (Decidable.not_not.1 (by assumption)) _ _ (own_slv (hA.owns (inferInstance : RmV _ (.slice (some ⟨g, 0, none⟩) l'.length cap) l'.length (ints (l' ++ [c]).dropLast) Y_int 1 _))) hA⟩

theorem c_Packer_End {a : Int} : C1 Try.prog F_pack_Packer_End #[ptr b, .int .i64 a] b (packer p) fun u Y => u = .int .i64 (p.fin a).2 ∧ Y = packer (p.fin a).1 := by
  intro w0 F w hA
  refine ok_pack_Packer_End ?_
  unfold T_pack_Packer_End
  repeat' (first | refine Step.out ?_ | refine And.intro (fun h => ?_) (fun h => ?_) | intro _ | refine GW.i64 (by omega) ?_ | refine GW.u32 (by omega) ?_ | refine GW.u64 (by omega) ?_ | refine GW.u8 (by omega) ?_ | refine GW.u16 (by omega) ?_ | refine And.intro rfl ?_ | refine And.intro (by assumption) ?_ | refine And.intro (by omega) ?_ | refine And.intro (by simp only [List.length_append, List.length_replicate, List.length_drop, List.length_take, List.length_cons, List.length_nil, u8s_len, be_length]; omega) ?_ | fail)
  · rw [Pk.fin, if_pos (by omega)]; exact ⟨_, ⟨rfl, rfl⟩, ‹_›⟩
  · obtain ⟨hm, bw, bm, sv, m, h1, hs, hA⟩ := packer_open ‹At w0 F _ [(b, packer p)]›
    have h2 := h1.room
    repeat' (first | refine Step.out ?_ | refine And.intro (fun h => ?_) (fun h => ?_) | intro _ | refine GW.i64 (by omega) ?_ | refine GW.u32 (by omega) ?_ | refine GW.u64 (by omega) ?_ | refine GW.u8 (by omega) ?_ | refine GW.u16 (by omega) ?_ | refine And.intro rfl ?_ | refine And.intro (by assumption) ?_ | refine And.intro (by omega) ?_ | refine And.intro (by simp only [List.length_append, List.length_replicate, List.length_drop, List.length_take, List.length_cons, List.length_nil, u8s_len, be_length]; omega) ?_ | fail)
    · rename_i sv' w1 hsv' hA1 w2 hA2 w3 hA3
      obtain ⟨c, hc, hca⟩ : ∃ c, p.begun.getLast? = some c ∧ (c : Int) = a := ⟨_, ‹p.begun.getLast? = some _›, ‹_›⟩
      have hcm : c ∈ p.begun := List.mem_of_getLast? hc
      have h3 := h1.pend c hcm
      repeat' (first | refine Step.out ?_ | refine And.intro (fun h => ?_) (fun h => ?_) | intro _ | refine GW.i64 (by omega) ?_ | refine GW.u32 (by omega) ?_ | refine GW.u64 (by omega) ?_ | refine GW.u8 (by omega) ?_ | refine GW.u16 (by omega) ?_ | refine And.intro rfl ?_ | refine And.intro (by assumption) ?_ | refine And.intro (by omega) ?_ | refine And.intro (by simp only [List.length_append, List.length_replicate, List.length_drop, List.length_take, List.length_cons, List.length_nil, u8s_len, be_length]; omega) ?_ | fail)
      rw [Pk.fin, if_neg (by omega), hc]
      simp only [hca, if_true]
      exact ⟨_, ⟨trivial, rfl⟩, packer_close' (bw := bw) (bm := bm) (m := m) (sv := sv') ⟨h1.lk, h1.far, by simp only [List.length_dropLast, Wr.patch_len]; omega, fun x hx => by rw [Wr.patch_len]; exact h1.pend x (List.dropLast_subset _ hx)⟩ (by rw [List.length_dropLast]; exact At.pm ‹_›)⟩
    · have hh : ∀ c, p.begun.getLast? = some c → (c : Int) ≠ a := by assumption
      have e : p.fin a = (p, 9) := by
        rw [Pk.fin, if_neg (by omega)]
        cases hg : p.begun.getLast? with
        | none => rfl
        | some c => simp only; rw [if_neg (hh c hg)]
      rw [e]
      exact ⟨_, ⟨rfl, rfl⟩, packer_close (bw := bw) (bm := bm) (sv := sv) h1 (At.pm ‹_›)⟩
instance {a : Int} [h : At w0 F w L] [r : Rm L b (packer p) L'] : Step (Gv Try.prog F_pack_Packer_End #[ptr b, .int .i64 a] w K) (∀ w', At w0 F w' ((b, packer (p.fin a).1) :: L') → K (.int .i64 (p.fin a).2) w') :=
  ⟨fun hk => C1.call c_Packer_End h r fun v Y w' hv hA => by obtain ⟨rfl, rfl⟩ := hv; exact hk w' hA⟩
end
end Go.Proofs.Ytkpinncakbnikaa
namespace Go.Proofs.Ytkpinncakbnikaa
open Go Np Go.Proofs
set_option linter.all false
set_option maxRecDepth 20000
section
variable {w0 w : World} {F : Fp} {L L' : List (Nat × Ent)} {b : Nat} {p : Pk} {K : Value → World → Prop}
theorem c_Packer_Name {n : By} (hn : n.length ≤ 1048576) : C1 Try.prog F_pack_Packer_Name #[ptr b, str n] b (packer p) fun u Y => u = .int .i64 (p.name n).2 ∧ Y = packer (p.name n).1 := by
  intro w0 F w hA
  refine ok_pack_Packer_Name ?_
  unfold T_pack_Packer_Name
  repeat' (first | refine Step.out ?_ | refine And.intro (fun h => ?_) (fun h => ?_) | intro _ | refine GW.i64 (by omega) ?_ | refine GW.u32 (by omega) ?_ | refine GW.u64 (by omega) ?_ | refine GW.u8 (by omega) ?_ | refine GW.u16 (by omega) ?_ | refine And.intro rfl ?_ | refine And.intro (by assumption) ?_ | refine And.intro (by omega) ?_ | refine And.intro (by simp only [List.length_append, List.length_replicate, List.length_drop, List.length_take, List.length_cons, List.length_nil, u8s_len, be_length]; omega) ?_ | fail)
  · rw [Pk.name, if_pos (by omega)]; exact ⟨_, ⟨rfl, rfl⟩, ‹_›⟩
  · have hr0 : p.ready n = 0 := Decidable.not_not.1 (by assumption)
    have hok : okN n = true ∧ n.length ≤ 254 := by
      unfold Pk.ready chkN at hr0
      split at hr0
      · omega
      · split at hr0
        · cases hr0
        · split at hr0
          · exact ⟨by assumption, by omega⟩
          · cases hr0
    rw [Pk.name, if_neg (by omega)]
    refine loop (fun s w => ∃ (m : By) (f : Nat) (q : Pk), m.length ≤ f ∧ m.length ≤ 254 ∧ okN m = true ∧ q.nameF f m = p.nameF n.length n ∧ s = [ptr b, str m] ∧ At w0 F w [(b, packer q)])
      (fun s w => match s with | [_, .string x] => x.size | _ => 0) ⟨n, n.length, p, Nat.le_refl _, hok.2, hok.1, rfl, rfl, ‹_›⟩ ?_
    rintro ρ w ⟨m, f, q, hf, hl, hm, hq, hs, hA⟩
    have hs' := hs
    simp only [pick, List.cons.injEq, and_true] at hs'
    obtain ⟨h0, h1⟩ := hs'
    simp only [hs, h0, h1, ← hq]
    obtain ⟨hb, bw, bm, sv, ms, hk, hsv, hA⟩ := packer_open hA
    cases m with
    | nil =>
      have e : q.nameF f [] = q.put [0] := by cases f <;> rfl
      rw [e]
      repeat' (first | refine Step.out ?_ | refine And.intro (fun h => ?_) (fun h => ?_) | intro _ | refine GW.i64 (by omega) ?_ | refine GW.u32 (by omega) ?_ | refine GW.u64 (by omega) ?_ | refine GW.u8 (by omega) ?_ | refine GW.u16 (by omega) ?_ | refine And.intro rfl ?_ | refine And.intro (by assumption) ?_ | refine And.intro (by omega) ?_ | refine And.intro (by simp only [List.length_append, List.length_replicate, List.length_drop, List.length_take, List.length_cons, List.length_nil, u8s_len, be_length]; omega) ?_ | fail)
      exact ⟨_, ⟨rfl, rfl⟩, packer_close (bw := bw) (bm := bm) (sv := sv) (hk.mono (Wr.put_len _ _)) (At.pm ‹_›)⟩
    | cons k r =>
      cases f with
      | zero => simp at hf
      | succ f =>
      have hm' := hm
      rw [okN_cons] at hm'
      have hkr : ¬ (k.toNat < 1 ∨ 63 < k.toNat ∨ r.length < k.toNat) := by
        intro h; rw [if_pos h] at hm'; cases hm'
      rw [if_neg hkr] at hm'
      simp only [List.length_cons] at hf hl
      have hlk := hk.lk (k :: r)
      cases hr : q.rests (k :: r) with
      | some a =>
        rw [hr] at hlk
        have hfar := hk.far _ _ hr
        haveI : LkSome ms (k :: r) (.int .i64 (a : Int)) := ⟨hlk⟩
        rw [Pk.nameF_some hr]
        repeat' (first | refine Step.out ?_ | refine And.intro (fun h => ?_) (fun h => ?_) | intro _ | refine GW.i64 (by omega) ?_ | refine GW.u32 (by omega) ?_ | refine GW.u64 (by omega) ?_ | refine GW.u8 (by omega) ?_ | refine GW.u16 (by omega) ?_ | refine And.intro rfl ?_ | refine And.intro (by assumption) ?_ | refine And.intro (by omega) ?_ | refine And.intro (by simp only [List.length_append, List.length_replicate, List.length_drop, List.length_take, List.length_cons, List.length_nil, u8s_len, be_length]; omega) ?_ | fail)
        exact ⟨_, ⟨rfl, rfl⟩, packer_close (bw := bw) (bm := bm) (sv := sv) (hk.mono (Wr.num_len _ _ _)) (At.pm ‹_›)⟩
      | none =>
        rw [hr] at hlk
        haveI : LkNone ms (k :: r) := ⟨hlk⟩
        rw [Pk.nameF_none hr]
        have e1 : (1 + (k.toNat : Int)).toNat = k.toNat + 1 := by omega
        repeat' (first | refine Step.out ?_ | refine And.intro (fun h => ?_) (fun h => ?_) | intro _ | refine GW.i64 (by omega) ?_ | refine GW.u32 (by omega) ?_ | refine GW.u64 (by omega) ?_ | refine GW.u8 (by omega) ?_ | refine GW.u16 (by omega) ?_ | refine And.intro rfl ?_ | refine And.intro (by assumption) ?_ | refine And.intro (by omega) ?_ | refine And.intro (by simp only [List.length_append, List.length_replicate, List.length_drop, List.length_take, List.length_cons, List.length_nil, u8s_len, be_length]; omega) ?_ | fail)
        all_goals simp only [e1, List.take_succ_cons, List.drop_succ_cons] at *
        · rw [if_pos (by assumption)]
          exact ⟨_, ⟨rfl, rfl⟩, packer_close (bw := bw) (bm := bm) (sv := sv) (hk.mono (Wr.put_len _ _)) (At.pm ‹_›)⟩
        · rw [if_neg (by assumption)]
          have hpl := Wr.put_len q.w (k :: r.take k.toNat)
          rw [if_pos (by omega)]
          refine ⟨⟨r.drop k.toNat, f, _, by simp; omega, by simp; omega, hm', rfl, rfl, packer_close' (bw := bw) (bm := bm) (sv := sv) (m := put ms (k :: r) (.int .i64 (q.w.s.length : Int))) ⟨fun n => ?_, fun n a => ?_, Nat.le_trans hk.room hpl, fun a ha => Nat.le_trans (hk.pend a ha) hpl⟩ (At.pm ‹_›)⟩, ?_⟩
          · simp only [look_put, updN, hk.lk]; split <;> rfl
          · simp only [updN]; split
            · intro h; cases h; omega
            · exact hk.far n a
          · simp only [size_mk, List.length_drop, List.length_cons]; omega
        · rw [if_neg (by assumption)]
          have hpl := Wr.put_len q.w (k :: r.take k.toNat)
          rw [if_neg (by omega)]
          refine ⟨⟨r.drop k.toNat, f, _, by simp; omega, by simp; omega, hm', rfl, rfl, packer_close' (bw := bw) (bm := bm) (sv := sv) (m := ms) (hk.mono (W := (q.w.put (k :: r.take k.toNat)).1) hpl) (At.pm ‹_›)⟩, ?_⟩
          simp only [size_mk, List.length_drop, List.length_cons]; omega
instance {n : By} [h : At w0 F w L] [r : Rm L b (packer p) L'] : Step (Gv Try.prog F_pack_Packer_Name #[ptr b, str n] w K) (n.length ≤ 1048576 ∧ ∀ w', At w0 F w' ((b, packer (p.name n).1) :: L') → K (.int .i64 (p.name n).2) w') :=
  ⟨fun ⟨hn, hk⟩ => C1.call (c_Packer_Name hn) h r fun v Y w' hv hA => by obtain ⟨rfl, rfl⟩ := hv; exact hk w' hA⟩
end
end Go.Proofs.Ytkpinncakbnikaa
namespace Go.Proofs.Ytkpinncakbnikaa
open Go Np Go.Proofs
set_option linter.all false
set_option maxRecDepth 20000
theorem noEsc_run (x : Value) (w : World) : (callFunc X_NoEscape #[x]).run Try.prog w = .ok (.value x) w := by
  obtain ⟨fn, h1, h2, h3, h4, h5⟩ := noEsc
  unfold callFunc
  simp only [Sem.run_bind, run_program, Result.andThen_ok, h1, h2, h3, h4, h5, if_true, Bool.false_eq_true, if_false]
  have e : ∀ w : World, (Extern.AbiNoEscape.same #[x]).run Try.prog w = .ok x w := fun w => rfl
  have e2 : (mark (.extern X_NoEscape)).run Try.prog w = .ok () w := by simp [mark, Sem.run]
  simp only [e2, Result.andThen_ok, Sem.run_bind, e, Sem.run_pure]
section
variable {w0 w : World} {F : Fp} {L L' : List (Nat × Ent)} {b : Nat} {K : Value → World → Prop} {KV : Value → Prop}
instance {x : Value} : Step (xt Try.prog X_NoEscape #[x] w K) (K x w) := ⟨fun hk => ⟨x, w, noEsc_run x w, hk⟩⟩
theorem At.congr {X Y : Ent} (h : X b = Y b) (hA : At w0 F w ((b, X) :: L)) : At w0 F w ((b, Y) :: L) := by
  obtain ⟨fp, sp, ⟨f, g, s, t, e1, e2, hx, hl⟩, rest⟩ := hA.h
  exact ⟨fp, sp, ⟨f, g, s, t, e1, e2, by rw [← h]; exact hx, hl⟩, rest⟩

abbrev urc (s : By) (fo : Bool) (t : RdS) (p v : Value) : Ent := cells [str s, .int .i64 t.at', .int .i64 t.begun, .int .i64 t.fin, .int .i64 t.jumps, .bool fo, p, v, .int .i64 t.e] Y_unpack_reader
def ureader (s : By) (fo : Bool) (t : RdS) : Ent := fun b =>
  (exE fun pv : Value × Value => puE (andE (urc s fo t pv.1 pv.2) 0 (own pv.2 t.out.length (u8s t.out) Y_uint8 1))
    (ROk s t ∧ (pv.1 = .pointer none ∨ pv.1 = .pointer (some ⟨b, 6, none⟩)) ∧ (t.out = [] → pv.2 = .slice none 0 0))) b
variable {s : By} {fo : Bool} {t : RdS}
theorem ureader_open (h : At w0 F w ((b, ureader s fo t) :: L)) : ROk s t ∧ ∃ p v, (p = .pointer none ∨ p = .pointer (some ⟨b, 6, none⟩)) ∧ (t.out = [] → v = .slice none 0 0) ∧ SlV v t.out.length ∧
    At w0 F w ((b, urc s fo t p v) :: (0, own v t.out.length (u8s t.out) Y_uint8 1) :: L) := by
  obtain ⟨⟨p, v⟩, h⟩ := At.exE_iff.1 (At.congr (X := ureader s fo t) (Y := exE fun pv : Value × Value => puE (andE (urc s fo t pv.1 pv.2) 0 (own pv.2 t.out.length (u8s t.out) Y_uint8 1))
    (ROk s t ∧ (pv.1 = .pointer none ∨ pv.1 = .pointer (some ⟨b, 6, none⟩)) ∧ (t.out = [] → pv.2 = .slice none 0 0))) rfl h)
  obtain ⟨⟨h1, h2, h3⟩, h⟩ := At.puE_iff.1 h
  have h := At.andE_iff.1 h
  exact ⟨h1, p, v, h2, h3, own_slv (h.owns inferInstance), h⟩
theorem ureader_close {p v : Value} (h1 : ROk s t) (h2 : p = .pointer none ∨ p = .pointer (some ⟨b, 6, none⟩)) (h3 : t.out = [] → v = .slice none 0 0)
    (h : At w0 F w ((b, urc s fo t p v) :: (0, own v t.out.length (u8s t.out) Y_uint8 1) :: L)) : At w0 F w ((b, ureader s fo t) :: L) :=
  At.congr (Y := ureader s fo t) (X := exE fun pv : Value × Value => puE (andE (urc s fo t pv.1 pv.2) 0 (own pv.2 t.out.length (u8s t.out) Y_uint8 1))
    (ROk s t ∧ (pv.1 = .pointer none ∨ pv.1 = .pointer (some ⟨b, 6, none⟩)) ∧ (t.out = [] → pv.2 = .slice none 0 0))) rfl
    (At.exE_iff.2 ⟨(p, v), At.puE_iff.2 ⟨⟨h1, h2, h3⟩, At.andE_iff.2 h⟩⟩)

theorem c_fail {e : Int} (hp : ROk s t) : C1 Try.prog F_unpack_reader_fail #[ptr b, .int .i64 e] b (ureader s fo t) fun u Y => u = .bool false ∧ Y = ureader s fo { t with e := e } := by
  intro w0 F w hA
  obtain ⟨h1, p, v, h2, h3, h4, hA⟩ := ureader_open hA
  refine ok_unpack_reader_fail ?_
  unfold T_unpack_reader_fail
  repeat' (first | refine Step.out ?_ | refine And.intro (fun h => ?_) (fun h => ?_) | intro _ | refine GW.i64 (by omega) ?_ | refine GW.u32 (by omega) ?_ | refine GW.u64 (by omega) ?_ | refine GW.u8 (by omega) ?_ | refine GW.u16 (by omega) ?_ | refine And.intro rfl ?_ | refine And.intro (by assumption) ?_ | refine And.intro (by omega) ?_ | refine And.intro (by simp only [List.length_append, List.length_replicate, List.length_drop, List.length_take, List.length_cons, List.length_nil, u8s_len, be_length]; omega) ?_ | fail)
  exact ⟨_, ⟨rfl, rfl⟩, ureader_close ⟨h1.a, h1.b, h1.l, h1.o, h1.j⟩ h2 h3 ‹_›⟩
instance {e : Int} [h : At w0 F w L] [r : Rm L b (ureader s fo t) L'] : Step (Gv Try.prog F_unpack_reader_fail #[ptr b, .int .i64 e] w K) (∀ w', At w0 F w' ((b, ureader s fo { t with e := e }) :: L') → K (.bool false) w') :=
  ⟨fun hk => C1.call (c_fail (ureader_open (h.perm r.perm)).1) h r fun v Y w' hv hA => by obtain ⟨rfl, rfl⟩ := hv; exact hk w' hA⟩
theorem c_leave {n : Nat} (hn : n ≤ 2) : C1 Try.prog F_unpack_reader_leave #[ptr b, .int .i64 n] b (ureader s fo t) fun u Y => u = .tuple #[] ∧ Y = ureader s fo (t.leave n) := by
  intro w0 F w hA
  obtain ⟨h1, p, v, h2, h3, h4, hA⟩ := ureader_open hA
  have := h1.a
  have := h1.l
  refine ok_unpack_reader_leave ?_
  unfold T_unpack_reader_leave
  repeat' (first | refine Step.out ?_ | refine And.intro (fun h => ?_) (fun h => ?_) | intro _ | refine GW.i64 (by omega) ?_ | refine GW.u32 (by omega) ?_ | refine GW.u64 (by omega) ?_ | refine GW.u8 (by omega) ?_ | refine GW.u16 (by omega) ?_ | refine And.intro rfl ?_ | refine And.intro (by assumption) ?_ | refine And.intro (by omega) ?_ | refine And.intro (by simp only [List.length_append, List.length_replicate, List.length_drop, List.length_take, List.length_cons, List.length_nil, u8s_len, be_length]; omega) ?_ | fail)
  · refine ⟨_, ⟨rfl, rfl⟩, ureader_close (t := t.leave n) ⟨h1.a, h1.b, h1.l, h1.o, h1.j⟩ h2 h3 ?_⟩
    simp only [RdS.leave]; rw [if_pos (by assumption)]; assumption
  · have e : t.leave n = t := by unfold RdS.leave; rw [if_neg (by assumption)]
    rw [e]
    exact ⟨_, ⟨rfl, rfl⟩, ureader_close h1 h2 h3 ‹_›⟩
instance leave1 [h : At w0 F w L] [r : Rm L b (ureader s fo t) L'] : Step (Gv Try.prog F_unpack_reader_leave #[ptr b, .int .i64 1] w K) (∀ w', At w0 F w' ((b, ureader s fo (t.leave 1)) :: L') → K (.tuple #[]) w') :=
  ⟨fun hk => C1.call (c_leave (n := 1) (by decide)) h r fun v Y w' hv hA => by obtain ⟨rfl, rfl⟩ := hv; exact hk w' hA⟩
instance leave2 [h : At w0 F w L] [r : Rm L b (ureader s fo t) L'] : Step (Gv Try.prog F_unpack_reader_leave #[ptr b, .int .i64 2] w K) (∀ w', At w0 F w' ((b, ureader s fo (t.leave 2)) :: L') → K (.tuple #[]) w') :=
  ⟨fun hk => C1.call (c_leave (n := 2) (by decide)) h r fun v Y w' hv hA => by obtain ⟨rfl, rfl⟩ := hv; exact hk w' hA⟩
theorem shape_cells {cs : List Value} {T : Nat} (h : At w0 F w L) (r : Rm L b (cells cs T) L') : w.shape? b = some (T, cs.length) := by
  simp [World.shape?, h.cells r]
instance {p v x0 x1 x2 x3 x4 x5 x8 : Value} [h : At w0 F w L] [r : Rm L b (cells [x0, x1, x2, x3, x4, x5, p, v, x8] Y_unpack_reader) L'] : Step (Gv Try.prog F_strings_Builder_copyCheck #[.pointer (some ⟨b, 6, none⟩)] w K)
    ((p = .pointer none ∨ p = .pointer (some ⟨b, 6, none⟩)) ∧ ∀ w', At w0 F w' ((b, cells [x0, x1, x2, x3, x4, x5, .pointer (some ⟨b, 6, none⟩), v, x8] Y_unpack_reader) :: L') → K (.tuple #[]) w') := ⟨fun ⟨hp, hk⟩ => by
  have hA := h.perm r.perm
  clear h r
  obtain ⟨j, hj, hjs⟩ := szOf_spec (show szOf Try.prog Y_strings_Builder = some 2 by kernel_rfl)
  have hsh := shape_cells (b := b) (cs := [x0, x1, x2, x3, x4, x5, p, v, x8]) (T := Y_unpack_reader) hA ⟨List.Perm.refl _⟩
  refine ok_strings_Builder_copyCheck ?_
  unfold T_strings_Builder_copyCheck
  rcases hp with rfl | rfl
  · repeat' (first | refine Step.out ?_ | refine And.intro (fun h => ?_) (fun h => ?_) | intro _ | refine GW.i64 (by omega) ?_ | refine GW.u32 (by omega) ?_ | refine GW.u64 (by omega) ?_ | refine GW.u8 (by omega) ?_ | refine GW.u16 (by omega) ?_ | refine And.intro rfl ?_ | refine And.intro (by assumption) ?_ | refine And.intro (by omega) ?_ | refine And.intro (by simp only [List.length_append, List.length_replicate, List.length_drop, List.length_take, List.length_cons, List.length_nil, u8s_len, be_length]; omega) ?_ | fail)
    refine ⟨_, Go.Lib.run_to_unsafe (t := Y_strings_Builder) (e := Y_unpack_reader) (cells := 9) _ _ (by kernel_rfl) (by kernel_rfl) hj (by omega) hsh (show 6 < 9 by decide), ?_⟩
    repeat' (first | refine Step.out ?_ | refine And.intro (fun h => ?_) (fun h => ?_) | intro _ | refine GW.i64 (by omega) ?_ | refine GW.u32 (by omega) ?_ | refine GW.u64 (by omega) ?_ | refine GW.u8 (by omega) ?_ | refine GW.u16 (by omega) ?_ | refine And.intro rfl ?_ | refine And.intro (by assumption) ?_ | refine And.intro (by omega) ?_ | refine And.intro (by simp only [List.length_append, List.length_replicate, List.length_drop, List.length_take, List.length_cons, List.length_nil, u8s_len, be_length]; omega) ?_ | fail)
    refine ⟨_, Go.Lib.run_from_unsafe (u := Y_strings_Builder) (e := Y_unpack_reader) (cells := 9) _ _ (by kernel_rfl) (by kernel_rfl) hj hsh (by kernel_rfl), ?_⟩
    repeat' (first | refine Step.out ?_ | refine And.intro (fun h => ?_) (fun h => ?_) | intro _ | refine GW.i64 (by omega) ?_ | refine GW.u32 (by omega) ?_ | refine GW.u64 (by omega) ?_ | refine GW.u8 (by omega) ?_ | refine GW.u16 (by omega) ?_ | refine And.intro rfl ?_ | refine And.intro (by assumption) ?_ | refine And.intro (by omega) ?_ | refine And.intro (by simp only [List.length_append, List.length_replicate, List.length_drop, List.length_take, List.length_cons, List.length_nil, u8s_len, be_length]; omega) ?_ | fail)
    exact hk _ ‹_›
  · repeat' (first | refine Step.out ?_ | refine And.intro (fun h => ?_) (fun h => ?_) | intro _ | refine GW.i64 (by omega) ?_ | refine GW.u32 (by omega) ?_ | refine GW.u64 (by omega) ?_ | refine GW.u8 (by omega) ?_ | refine GW.u16 (by omega) ?_ | refine And.intro rfl ?_ | refine And.intro (by assumption) ?_ | refine And.intro (by omega) ?_ | refine And.intro (by simp only [List.length_append, List.length_replicate, List.length_drop, List.length_take, List.length_cons, List.length_nil, u8s_len, be_length]; omega) ?_ | fail)
    refine ⟨.bool false, fun w => ?_, ?_⟩
    · simp only [bin, Sem.run_bind, eqF_ptr, Result.andThen_ok]
      exact Go.Lib.run_neq_ptr_same (tp := _) (te := Y_strings_Builder) _ _ (by kernel_rfl) hj
    · repeat' (first | refine Step.out ?_ | refine And.intro (fun h => ?_) (fun h => ?_) | intro _ | refine GW.i64 (by omega) ?_ | refine GW.u32 (by omega) ?_ | refine GW.u64 (by omega) ?_ | refine GW.u8 (by omega) ?_ | refine GW.u16 (by omega) ?_ | refine And.intro rfl ?_ | refine And.intro (by assumption) ?_ | refine And.intro (by omega) ?_ | refine And.intro (by simp only [List.length_append, List.length_replicate, List.length_drop, List.length_take, List.length_cons, List.length_nil, u8s_len, be_length]; omega) ?_ | fail)
      exact hk _ ‹_›⟩
instance {p v x0 x1 x2 x3 x4 x5 x8 : Value} {x : By} {n : Nat} {xs : List Value} {L2 L3 : List (Nat × Ent)} [h : At w0 F w L] [r : Rm L b (cells [x0, x1, x2, x3, x4, x5, p, v, x8] Y_unpack_reader) L2] [rv : RmV L2 v n xs Y_uint8 1 L3] : Step (Gv Try.prog F_strings_Builder_WriteString #[.pointer (some ⟨b, 6, none⟩), str x] w K)
    (((p = .pointer none ∨ p = .pointer (some ⟨b, 6, none⟩)) ∧ n + x.length ≤ 1048576) ∧ ∀ v' w', SlV v' (n + x.length) → At w0 F w' ((b, cells [x0, x1, x2, x3, x4, x5, .pointer (some ⟨b, 6, none⟩), v', x8] Y_unpack_reader) :: (0, own v' (n + x.length) (xs ++ u8s x) Y_uint8 1) :: L3) → K (.tuple #[.int .i64 x.length, .nilIface]) w') := ⟨fun ⟨⟨hp, hn⟩, hk⟩ => by
  obtain ⟨k, hpm⟩ := rv.perm
  have hA : At w0 F w ((b, cells [x0, x1, x2, x3, x4, x5, p, v, x8] Y_unpack_reader) :: (0, own v n xs Y_uint8 1) :: L3) := (((h.perm (r.perm.trans ((hpm.cons _).trans (List.Perm.swap _ _ _)))).okey 0)).perm (List.Perm.swap _ _ _)
  have hs : SlV v n := own_slv (hA.owns inferInstance)
  clear h rv r
  refine ok_strings_Builder_WriteString ?_
  unfold T_strings_Builder_WriteString
  refine Step.out ⟨hp, ?_⟩
  repeat' (first | refine Step.out ?_ | refine And.intro (fun h => ?_) (fun h => ?_) | intro _ | refine GW.i64 (by omega) ?_ | refine GW.u32 (by omega) ?_ | refine GW.u64 (by omega) ?_ | refine GW.u8 (by omega) ?_ | refine GW.u16 (by omega) ?_ | refine And.intro rfl ?_ | refine And.intro (by assumption) ?_ | refine And.intro (by omega) ?_ | refine And.intro (by simp only [List.length_append, List.length_replicate, List.length_drop, List.length_take, List.length_cons, List.length_nil, u8s_len, be_length]; omega) ?_ | fail)
  exact hk _ _ ‹_› (At.pm ‹_›)⟩
instance {p v x0 x1 x2 x3 x4 x5 x8 : Value} {n : Nat} [h : At w0 F w L] [r : Rm L b (cells [x0, x1, x2, x3, x4, x5, p, v, x8] Y_unpack_reader) L'] [hs : SlV v n] : Step (Gv Try.prog F_strings_Builder_Len #[.pointer (some ⟨b, 6, none⟩)] w K)
    (∀ w', At w0 F w' ((b, cells [x0, x1, x2, x3, x4, x5, p, v, x8] Y_unpack_reader) :: L') → K (.int .i64 n) w') := ⟨fun hk => by
  have hA := h.perm r.perm
  clear h r
  refine ok_strings_Builder_Len ?_
  unfold T_strings_Builder_Len
  repeat' (first | refine Step.out ?_ | refine And.intro (fun h => ?_) (fun h => ?_) | intro _ | refine GW.i64 (by omega) ?_ | refine GW.u32 (by omega) ?_ | refine GW.u64 (by omega) ?_ | refine GW.u8 (by omega) ?_ | refine GW.u16 (by omega) ?_ | refine And.intro rfl ?_ | refine And.intro (by assumption) ?_ | refine And.intro (by omega) ?_ | refine And.intro (by simp only [List.length_append, List.length_replicate, List.length_drop, List.length_take, List.length_cons, List.length_nil, u8s_len, be_length]; omega) ?_ | fail)
  exact hk _ ‹_›⟩

theorem c_label {c : Nat} (hc : c ≤ 63) (ho : t.out.length ≤ 254) (hat : t.at' < s.length) (hc0 : 1 ≤ c) : C1 Try.prog F_unpack_reader_label #[ptr b, .int .i64 c] b (ureader s fo t) fun u Y => u = .bool (t.label s c).2 ∧ Y = ureader s fo (t.label s c).1 := by
  intro w0 F w hA
  have h1 := (ureader_open hA).1
  have hl := h1.l
  have ha := h1.a
  refine ok_unpack_reader_label ?_
  unfold T_unpack_reader_label
  obtain ⟨h1, p, v, h2, h3, h4, hA⟩ := ureader_open hA
  repeat' (first | refine Step.out ?_ | refine And.intro (fun h => ?_) (fun h => ?_) | intro _ | refine GW.i64 (by omega) ?_ | refine GW.u32 (by omega) ?_ | refine GW.u64 (by omega) ?_ | refine GW.u8 (by omega) ?_ | refine GW.u16 (by omega) ?_ | refine And.intro rfl ?_ | refine And.intro (by assumption) ?_ | refine And.intro (by omega) ?_ | refine And.intro (by simp only [List.length_append, List.length_replicate, List.length_drop, List.length_take, List.length_cons, List.length_nil, u8s_len, be_length]; omega) ?_ | fail)
  · haveI hB : At w0 F _ [(b, ureader s fo t)] := ureader_close h1 h2 h3 ‹_›
    repeat' (first | refine Step.out ?_ | refine And.intro (fun h => ?_) (fun h => ?_) | intro _ | refine GW.i64 (by omega) ?_ | refine GW.u32 (by omega) ?_ | refine GW.u64 (by omega) ?_ | refine GW.u8 (by omega) ?_ | refine GW.u16 (by omega) ?_ | refine And.intro rfl ?_ | refine And.intro (by assumption) ?_ | refine And.intro (by omega) ?_ | refine And.intro (by simp only [List.length_append, List.length_replicate, List.length_drop, List.length_take, List.length_cons, List.length_nil, u8s_len, be_length]; omega) ?_ | fail)
    rw [RdS.label, if_pos (by omega)]
    exact ⟨_, ⟨rfl, rfl⟩, ‹_›⟩
  · have hxl : ((s.drop t.at').take (1 + c)).length = 1 + c := by simp only [List.length_take, List.length_drop]; omega
    have e : List.take (((t.at' : Int) + 1 + c).toNat - (t.at' : Int).toNat) (List.drop (t.at' : Int).toNat s) = (s.drop t.at').take (1 + c) := by
      rw [Int.toNat_natCast, show ((t.at' : Int) + 1 + c).toNat - t.at' = 1 + c from by omega]
    have hne : t.out ++ (s.drop t.at').take (1 + c) = [] → False := fun h => by
      have := congrArg List.length h
      rw [List.length_append, hxl] at this; simp at this
    simp only [e, hxl]
    refine ⟨⟨h2, by omega⟩, ?_⟩
    repeat' (first | refine Step.out ?_ | refine And.intro (fun h => ?_) (fun h => ?_) | intro _ | refine GW.i64 (by omega) ?_ | refine GW.u32 (by omega) ?_ | refine GW.u64 (by omega) ?_ | refine GW.u8 (by omega) ?_ | refine GW.u16 (by omega) ?_ | refine And.intro rfl ?_ | refine And.intro (by assumption) ?_ | refine And.intro (by omega) ?_ | refine And.intro (by simp only [List.length_append, List.length_replicate, List.length_drop, List.length_take, List.length_cons, List.length_nil, u8s_len, be_length]; omega) ?_ | fail)
    all_goals rename_i v' _ hsv _ _ _ _ hA
    all_goals rw [show ((t.at' : Int) + (1 + (c : Int))) = ((t.at' + (1 + c) : Nat) : Int) from by omega] at hA
    all_goals have hA2 : At w0 F _ [(b, ureader s fo { t with out := t.out ++ (s.drop t.at').take (1 + c), at' := t.at' + (1 + c) })] :=
        ureader_close (p := .pointer (some ⟨b, 6, none⟩)) (v := v') ⟨by simp only; omega, h1.b, h1.l, by simp only [List.length_append, hxl]; omega, h1.j⟩ (.inr rfl) (fun h => (hne h).elim) (by
          simp only [List.length_append, hxl, u8s_append]
          exact At.pm hA)
    · repeat' (first | refine Step.out ?_ | refine And.intro (fun h => ?_) (fun h => ?_) | intro _ | refine GW.i64 (by omega) ?_ | refine GW.u32 (by omega) ?_ | refine GW.u64 (by omega) ?_ | refine GW.u8 (by omega) ?_ | refine GW.u16 (by omega) ?_ | refine And.intro rfl ?_ | refine And.intro (by assumption) ?_ | refine And.intro (by omega) ?_ | refine And.intro (by simp only [List.length_append, List.length_replicate, List.length_drop, List.length_take, List.length_cons, List.length_nil, u8s_len, be_length]; omega) ?_ | fail)
      rw [RdS.label, if_neg (by omega), if_pos (by omega)]
      exact ⟨_, ⟨rfl, rfl⟩, ‹_›⟩
    · rw [RdS.label, if_neg (by omega), if_neg (by omega)]
      exact ⟨_, ⟨rfl, rfl⟩, hA2⟩
instance {c : Nat} [h : At w0 F w L] [r : Rm L b (ureader s fo t) L'] : Step (Gv Try.prog F_unpack_reader_label #[ptr b, .int .i64 c] w K)
    ((c ≤ 63 ∧ t.out.length ≤ 254 ∧ t.at' < s.length ∧ 1 ≤ c) ∧ ∀ w', At w0 F w' ((b, ureader s fo (t.label s c).1) :: L') → K (.bool (t.label s c).2) w') :=
  ⟨fun ⟨⟨h1, h2, h3, h4⟩, hk⟩ => C1.call (c_label h1 h2 h3 h4) h r fun v Y w' hv hA => by obtain ⟨rfl, rfl⟩ := hv; exact hk w' hA⟩

theorem c_jump {q : Int} (hq : 0 ≤ q ∧ q ≤ 63) : C1 Try.prog F_unpack_reader_jump #[ptr b, .int .i64 q] b (ureader s fo t) fun u Y => u = .bool (t.jump s q.toNat).2 ∧ Y = ureader s fo (t.jump s q.toNat).1 := by
  intro w0 F w hA
  have h1 := (ureader_open hA).1
  have hl := h1.l
  have ha := h1.a
  have hj := h1.j
  obtain ⟨c, rfl⟩ : ∃ c : Nat, q = c := ⟨q.toNat, by omega⟩
  refine ok_unpack_reader_jump ?_
  unfold T_unpack_reader_jump
  obtain ⟨h1, p, v, h2, h3, h4, hA⟩ := ureader_open hA
  repeat' (first | refine Step.out ?_ | refine And.intro (fun h => ?_) (fun h => ?_) | intro _ | refine GW.i64 (by omega) ?_ | refine GW.u32 (by omega) ?_ | refine GW.u64 (by omega) ?_ | refine GW.u8 (by omega) ?_ | refine GW.u16 (by omega) ?_ | refine And.intro rfl ?_ | refine And.intro (by assumption) ?_ | refine And.intro (by omega) ?_ | refine And.intro (by simp only [List.length_append, List.length_replicate, List.length_drop, List.length_take, List.length_cons, List.length_nil, u8s_len, be_length]; omega) ?_ | fail)
  · haveI hB : At w0 F _ [(b, ureader s fo t)] := ureader_close h1 h2 h3 ‹_›
    repeat' (first | refine Step.out ?_ | refine And.intro (fun h => ?_) (fun h => ?_) | intro _ | refine GW.i64 (by omega) ?_ | refine GW.u32 (by omega) ?_ | refine GW.u64 (by omega) ?_ | refine GW.u8 (by omega) ?_ | refine GW.u16 (by omega) ?_ | refine And.intro rfl ?_ | refine And.intro (by assumption) ?_ | refine And.intro (by omega) ?_ | refine And.intro (by simp only [List.length_append, List.length_replicate, List.length_drop, List.length_take, List.length_cons, List.length_nil, u8s_len, be_length]; omega) ?_ | fail)
    rw [RdS.jump, if_pos (by omega)]
    exact ⟨_, ⟨rfl, rfl⟩, ‹_›⟩
  · have hat : ((t.at' : Int) + 1).toNat = t.at' + 1 := by omega
    rw [hat] at *
    have hx : (s.getD (t.at' + 1) 0).toNat ≤ 255 := by have := (s.getD (t.at' + 1) 0).toNat_lt; omega
    generalize hxx : (s.getD (t.at' + 1) 0).toNat = x at *
    refine OW.i64 (q := (c : Int)) 8 rfl (by omega) (by omega) (by omega) ?_
    repeat' (first | refine Step.out ?_ | refine And.intro (fun h => ?_) (fun h => ?_) | intro _ | refine GW.i64 (by omega) ?_ | refine GW.u32 (by omega) ?_ | refine GW.u64 (by omega) ?_ | refine GW.u8 (by omega) ?_ | refine GW.u16 (by omega) ?_ | refine And.intro rfl ?_ | refine And.intro (by assumption) ?_ | refine And.intro (by omega) ?_ | refine And.intro (by simp only [List.length_append, List.length_replicate, List.length_drop, List.length_take, List.length_cons, List.length_nil, u8s_len, be_length]; omega) ?_ | fail)
    · haveI hB : At w0 F _ [(b, ureader s fo t)] := ureader_close h1 h2 h3 ‹_›
      repeat' (first | refine Step.out ?_ | refine And.intro (fun h => ?_) (fun h => ?_) | intro _ | refine GW.i64 (by omega) ?_ | refine GW.u32 (by omega) ?_ | refine GW.u64 (by omega) ?_ | refine GW.u8 (by omega) ?_ | refine GW.u16 (by omega) ?_ | refine And.intro rfl ?_ | refine And.intro (by assumption) ?_ | refine And.intro (by omega) ?_ | refine And.intro (by simp only [List.length_append, List.length_replicate, List.length_drop, List.length_take, List.length_cons, List.length_nil, u8s_len, be_length]; omega) ?_ | fail)
      rw [RdS.jump, if_neg (by omega), hxx, if_pos (by simp only [Int.toNat_natCast]; omega)]
      exact ⟨_, ⟨rfl, rfl⟩, ‹_›⟩
    · haveI hB : At w0 F _ [(b, ureader s fo t)] := ureader_close h1 h2 h3 ‹_›
      refine Step.out ?_
      intro w' hA'
      clear hB
      obtain ⟨h1', p', v', h2', h3', h4', hA'⟩ := ureader_open hA'
      have hj' : (t.leave 2).jumps = t.jumps := rfl
      repeat' (first | refine Step.out ?_ | refine And.intro (fun h => ?_) (fun h => ?_) | intro _ | refine GW.i64 (by omega) ?_ | refine GW.u32 (by omega) ?_ | refine GW.u64 (by omega) ?_ | refine GW.u8 (by omega) ?_ | refine GW.u16 (by omega) ?_ | refine And.intro rfl ?_ | refine And.intro (by assumption) ?_ | refine And.intro (by omega) ?_ | refine And.intro (by simp only [List.length_append, List.length_replicate, List.length_drop, List.length_take, List.length_cons, List.length_nil, u8s_len, be_length]; omega) ?_ | fail)
      rename_i hA3
      rw [RdS.jump, if_neg (by omega), hxx, if_neg (by simp only [Int.toNat_natCast]; omega)]
      simp only [Int.toNat_natCast]
      rw [show ((c : Int) * 256 + x) = ((c * 256 + x : Nat) : Int) from by omega, show (((t.leave 2).jumps : Int) + 1) = ((t.jumps + 1 : Nat) : Int) from by rw [hj']; omega] at hA3
      exact ⟨_, ⟨trivial, rfl⟩, ureader_close (p := p') (v := v') ⟨by simp only; omega, by simp only; omega, h1.l, h1.o, by simp only; omega⟩ h2' h3' hA3⟩
instance {q : Int} [h : At w0 F w L] [r : Rm L b (ureader s fo t) L'] : Step (Gv Try.prog F_unpack_reader_jump #[ptr b, .int .i64 q] w K)
    ((0 ≤ q ∧ q ≤ 63) ∧ ∀ w', At w0 F w' ((b, ureader s fo (t.jump s q.toNat).1) :: L') → K (.bool (t.jump s q.toNat).2) w') :=
  ⟨fun ⟨h1, hk⟩ => C1.call (c_jump h1) h r fun v Y w' hv hA => by obtain ⟨rfl, rfl⟩ := hv; exact hk w' hA⟩

theorem c_step (ho : t.out.length ≤ 254) : C1 Try.prog F_unpack_reader_step #[ptr b] b (ureader s fo t) fun u Y => u = .bool (t.step s fo).2 ∧ Y = ureader s fo (t.step s fo).1 := by
  intro w0 F w hA
  have h1 := (ureader_open hA).1
  have hl := h1.l
  have ha := h1.a
  refine ok_unpack_reader_step ?_
  unfold T_unpack_reader_step
  obtain ⟨h1, p, v, h2, h3, h4, hA⟩ := ureader_open hA
  repeat' (first | refine Step.out ?_ | refine And.intro (fun h => ?_) (fun h => ?_) | intro _ | refine GW.i64 (by omega) ?_ | refine GW.u32 (by omega) ?_ | refine GW.u64 (by omega) ?_ | refine GW.u8 (by omega) ?_ | refine GW.u16 (by omega) ?_ | refine And.intro rfl ?_ | refine And.intro (by assumption) ?_ | refine And.intro (by omega) ?_ | refine And.intro (by simp only [List.length_append, List.length_replicate, List.length_drop, List.length_take, List.length_cons, List.length_nil, u8s_len, be_length]; omega) ?_ | fail)
  all_goals haveI hB : At w0 F _ [(b, ureader s fo t)] := ureader_close h1 h2 h3 ‹_›
  all_goals simp only [Int.toNat_natCast] at *
  · repeat' (first | refine Step.out ?_ | refine And.intro (fun h => ?_) (fun h => ?_) | intro _ | refine GW.i64 (by omega) ?_ | refine GW.u32 (by omega) ?_ | refine GW.u64 (by omega) ?_ | refine GW.u8 (by omega) ?_ | refine GW.u16 (by omega) ?_ | refine And.intro rfl ?_ | refine And.intro (by assumption) ?_ | refine And.intro (by omega) ?_ | refine And.intro (by simp only [List.length_append, List.length_replicate, List.length_drop, List.length_take, List.length_cons, List.length_nil, u8s_len, be_length]; omega) ?_ | fail)
    rw [RdS.step, if_pos (by omega)]; exact ⟨_, ⟨rfl, rfl⟩, ‹_›⟩
  all_goals rw [RdS.step, if_neg (by omega)]
  all_goals simp only
  · rw [if_pos (by omega)]
    repeat' (first | refine Step.out ?_ | refine And.intro (fun h => ?_) (fun h => ?_) | intro _ | refine GW.i64 (by omega) ?_ | refine GW.u32 (by omega) ?_ | refine GW.u64 (by omega) ?_ | refine GW.u8 (by omega) ?_ | refine GW.u16 (by omega) ?_ | refine And.intro rfl ?_ | refine And.intro (by assumption) ?_ | refine And.intro (by omega) ?_ | refine And.intro (by simp only [List.length_append, List.length_replicate, List.length_drop, List.length_take, List.length_cons, List.length_nil, u8s_len, be_length]; omega) ?_ | fail)
    exact ⟨_, ⟨rfl, rfl⟩, ‹_›⟩
  all_goals rw [if_neg (by omega)]
  · rw [if_pos (by omega)]
    repeat' (first | refine Step.out ?_ | refine And.intro (fun h => ?_) (fun h => ?_) | intro _ | refine GW.i64 (by omega) ?_ | refine GW.u32 (by omega) ?_ | refine GW.u64 (by omega) ?_ | refine GW.u8 (by omega) ?_ | refine GW.u16 (by omega) ?_ | refine And.intro rfl ?_ | refine And.intro (by assumption) ?_ | refine And.intro (by omega) ?_ | refine And.intro (by simp only [List.length_append, List.length_replicate, List.length_drop, List.length_take, List.length_cons, List.length_nil, u8s_len, be_length]; omega) ?_ | fail)
    exact ⟨_, ⟨rfl, rfl⟩, ‹_›⟩
  all_goals rw [if_neg (by omega)]
  · have hfo : fo = true := by assumption
    rw [if_pos (by omega), if_pos hfo]
    have hx : (s.getD t.at' 0).toNat ≤ 255 := by have := (s.getD t.at' 0).toNat_lt; omega
    repeat' (first | refine Step.out ?_ | refine And.intro (fun h => ?_) (fun h => ?_) | intro _ | refine GW.i64 (by omega) ?_ | refine GW.u32 (by omega) ?_ | refine GW.u64 (by omega) ?_ | refine GW.u8 (by omega) ?_ | refine GW.u16 (by omega) ?_ | refine And.intro rfl ?_ | refine And.intro (by assumption) ?_ | refine And.intro (by omega) ?_ | refine And.intro (by simp only [List.length_append, List.length_replicate, List.length_drop, List.length_take, List.length_cons, List.length_nil, u8s_len, be_length]; omega) ?_ | fail)
    rw [show (((s.getD t.at' 0).toNat : Int) - 192).toNat = (s.getD t.at' 0).toNat - 192 from by omega] at *
    exact ⟨_, ⟨rfl, rfl⟩, ‹_›⟩
  · have hfo : ¬ fo = true := by assumption
    rw [if_pos (by omega), if_neg hfo]
    repeat' (first | refine Step.out ?_ | refine And.intro (fun h => ?_) (fun h => ?_) | intro _ | refine GW.i64 (by omega) ?_ | refine GW.u32 (by omega) ?_ | refine GW.u64 (by omega) ?_ | refine GW.u8 (by omega) ?_ | refine GW.u16 (by omega) ?_ | refine And.intro rfl ?_ | refine And.intro (by assumption) ?_ | refine And.intro (by omega) ?_ | refine And.intro (by simp only [List.length_append, List.length_replicate, List.length_drop, List.length_take, List.length_cons, List.length_nil, u8s_len, be_length]; omega) ?_ | fail)
    exact ⟨_, ⟨rfl, rfl⟩, ‹_›⟩
  · rw [if_neg (by omega)]
    repeat' (first | refine Step.out ?_ | refine And.intro (fun h => ?_) (fun h => ?_) | intro _ | refine GW.i64 (by omega) ?_ | refine GW.u32 (by omega) ?_ | refine GW.u64 (by omega) ?_ | refine GW.u8 (by omega) ?_ | refine GW.u16 (by omega) ?_ | refine And.intro rfl ?_ | refine And.intro (by assumption) ?_ | refine And.intro (by omega) ?_ | refine And.intro (by simp only [List.length_append, List.length_replicate, List.length_drop, List.length_take, List.length_cons, List.length_nil, u8s_len, be_length]; omega) ?_ | fail)
    exact ⟨_, ⟨rfl, rfl⟩, ‹_›⟩
instance [h : At w0 F w L] [r : Rm L b (ureader s fo t) L'] : Step (Gv Try.prog F_unpack_reader_step #[ptr b] w K)
    (t.out.length ≤ 254 ∧ ∀ w', At w0 F w' ((b, ureader s fo (t.step s fo).1) :: L') → K (.bool (t.step s fo).2) w') :=
  ⟨fun ⟨h1, hk⟩ => C1.call (c_step h1) h r fun v Y w' hv hA => by obtain ⟨rfl, rfl⟩ := hv; exact hk w' hA⟩

theorem run_eq (f : Nat) (t : RdS) (hf : t.mu s < f) (hp : ROk s t) (ho : t.out.length ≤ 254) : t.run s fo f = t.run s fo (t.mu s + 1) := by
  have key : ∀ f g (t : RdS), ROk s t → t.out.length ≤ 254 → t.mu s < f → t.mu s < g → t.run s fo f = t.run s fo g := by
    intro f
    induction f with
    | zero => intro g t _ _ h; omega
    | succ f ih =>
      intro g t hp ho h1 h2
      cases g with
      | zero => omega
      | succ g =>
        simp only [RdS.run]
        obtain ⟨h3, h4⟩ := hp.step ho fo
        split
        · rename_i hb
          obtain ⟨h5, h6⟩ := h4 hb
          exact ih g _ h3 h6 (by omega) (by omega)
        · rfl
  exact key f _ t hp ho hf (Nat.lt_succ_self _)
instance {x0 x1 x2 x3 x4 x5 x6 x7 x8 : Value} {e : Int} [h : At w0 F w L] [r : Rm L b (cells [x0, x1, x2, x3, x4, x5, x6, x7, x8] Y_unpack_reader) L'] : Step (Gv Try.prog F_unpack_reader_fail #[ptr b, .int .i64 e] w K)
    (∀ w', At w0 F w' ((b, cells [x0, x1, x2, x3, x4, x5, x6, x7, .int .i64 e] Y_unpack_reader) :: L') → K (.bool false) w') := ⟨fun hk => by
  have hA := h.perm r.perm
  clear h r
  refine ok_unpack_reader_fail ?_
  unfold T_unpack_reader_fail
  repeat' (first | refine Step.out ?_ | refine And.intro (fun h => ?_) (fun h => ?_) | intro _ | refine GW.i64 (by omega) ?_ | refine GW.u32 (by omega) ?_ | refine GW.u64 (by omega) ?_ | refine GW.u8 (by omega) ?_ | refine GW.u16 (by omega) ?_ | refine And.intro rfl ?_ | refine And.intro (by assumption) ?_ | refine And.intro (by omega) ?_ | refine And.intro (by simp only [List.length_append, List.length_replicate, List.length_drop, List.length_take, List.length_cons, List.length_nil, u8s_len, be_length]; omega) ?_ | fail)
  exact hk _ ‹_›⟩
theorem c_read_bad {a : Int} (ha : a < 0 ∨ s.length < a) (h : At w0 F w L) (hk : ∀ b x0 x1 x2 x3 x4 x5 x6 x7 w', At w0 F w' ((b, cells [x0, x1, x2, x3, x4, x5, x6, x7, .int .i64 2] Y_unpack_reader) :: L) → K (ptr b) w') :
    Gv Try.prog F_unpack_read #[str s, .int .i64 a, .bool fo] w K := by
  refine ok_unpack_read ?_
  unfold T_unpack_read
  repeat' (first | refine Step.out ?_ | refine And.intro (fun h => ?_) (fun h => ?_) | intro _ | refine GW.i64 (by omega) ?_ | refine GW.u32 (by omega) ?_ | refine GW.u64 (by omega) ?_ | refine GW.u8 (by omega) ?_ | refine GW.u16 (by omega) ?_ | refine And.intro rfl ?_ | refine And.intro (by assumption) ?_ | refine And.intro (by omega) ?_ | refine And.intro (by simp only [List.length_append, List.length_replicate, List.length_drop, List.length_take, List.length_cons, List.length_nil, u8s_len, be_length]; omega) ?_ | fail)
  · exact hk _ _ _ _ _ _ _ _ _ _ ‹_›
  · exact hk _ _ _ _ _ _ _ _ _ _ ‹_›
  · omega
theorem c_read {a : Nat} (hs : s.length ≤ 1099511627776) (ha : a ≤ s.length) (h : At w0 F w L) (hk : ∀ b w', At w0 F w' ((b, ureader s fo ((rdInit a).run s fo ((rdInit a).mu s + 1))) :: L) → K (ptr b) w') :
    Gv Try.prog F_unpack_read #[str s, .int .i64 a, .bool fo] w K := by
  refine ok_unpack_read ?_
  unfold T_unpack_read
  repeat' (first | refine Step.out ?_ | refine And.intro (fun h => ?_) (fun h => ?_) | intro _ | refine GW.i64 (by omega) ?_ | refine GW.u32 (by omega) ?_ | refine GW.u64 (by omega) ?_ | refine GW.u8 (by omega) ?_ | refine GW.u16 (by omega) ?_ | refine And.intro rfl ?_ | refine And.intro (by assumption) ?_ | refine And.intro (by omega) ?_ | refine And.intro (by simp only [List.length_append, List.length_replicate, List.length_drop, List.length_take, List.length_cons, List.length_nil, u8s_len, be_length]; omega) ?_ | fail)
  · omega
  · omega
  rename_i b w1 hA _
  have hok : ROk s (rdInit a) := ⟨ha, ha, hs, by simp [rdInit], by simp [rdInit]; exact ha⟩
  have hB : At w0 F w1 ((b, ureader s fo (rdInit a)) :: L) := ureader_close (p := .pointer none) (v := .slice none 0 0) hok (.inl rfl) (fun _ => rfl) ((hA.ownNil Y_uint8 1).perm (List.Perm.swap _ _ _))
  refine loopN (fun n s' w => ∃ t : RdS, ROk s t ∧ t.out.length ≤ 254 ∧ t.run s fo (t.mu s + 1) = (rdInit a).run s fo ((rdInit a).mu s + 1) ∧ n = t.mu s ∧ s' = [ptr b] ∧ At w0 F w ((b, ureader s fo t) :: L))
    _ ⟨rdInit a, hok, by simp [rdInit], rfl, rfl, rfl, hB⟩ ?_
  rintro n ρ w ⟨t, ht, ho, hr, rfl, hs', hA⟩
  simp only [pick, List.cons.injEq, and_true] at hs'
  simp only [hs']
  obtain ⟨h3, h4⟩ := ht.step ho fo
  rw [RdS.run] at hr
  repeat' (first | refine Step.out ?_ | refine And.intro (fun h => ?_) (fun h => ?_) | intro _ | refine GW.i64 (by omega) ?_ | refine GW.u32 (by omega) ?_ | refine GW.u64 (by omega) ?_ | refine GW.u8 (by omega) ?_ | refine GW.u16 (by omega) ?_ | refine And.intro rfl ?_ | refine And.intro (by assumption) ?_ | refine And.intro (by omega) ?_ | refine And.intro (by simp only [List.length_append, List.length_replicate, List.length_drop, List.length_take, List.length_cons, List.length_nil, u8s_len, be_length]; omega) ?_ | fail)
  · have hb : (t.step s fo).2 = true := by assumption
    obtain ⟨h5, h6⟩ := h4 hb
    rw [if_pos hb, run_eq _ _ h5 h3 h6] at hr
    exact ⟨_, h5, _, h3, h6, hr, rfl, trivial, ‹_›⟩
  · rw [if_neg (by assumption)] at hr
    rw [hr] at *
    exact hk _ _ ‹_›
theorem At.froze {k g n cap E size m : Nat} {xs : List Value} (h : At w0 F w ((k, own (.slice (some ⟨g, 0, none⟩) n cap) n xs E size) :: L)) : At w0 F (w.freeze ⟨g, 0, none⟩ m) L := by
  refine At.work (A := [(k, own (.slice (some ⟨g, 0, none⟩) n cap) n xs E size)]) (B := []) (R := L) (List.Perm.refl _) h fun f hf => ?_
  obtain ⟨fp, sp, ⟨f1, g1, s1, t1, rfl, rfl, ⟨hf1, hs1, ho⟩, rfl, rfl⟩, h2, h3, h4, h5, h6⟩ := hf.h
  have hg : g ∈ f.x ∨ w.heap.size ≤ g := h4 g (by rw [hf1]; simp [Value.ownBlock])
  have hlt : g < w.heap.size := (ho.lt g (by simp [Value.ownBlock])).2
  have hgx : g ∈ f.x := hg.resolve_right (by omega)
  refine ⟨[], [], ⟨rfl, rfl⟩, List.nodup_nil, (fun _ h => by cases h), (fun _ h => by cases h), (fun _ h => by cases h), ?_⟩
  unfold World.freeze
  split
  · exact Ext.refl _ _
  · exact ⟨by simp, fun c hc hcf => by
      have hne : g ≠ c := by rintro rfl; exact hcf hgx
      simp [Array.getElem?_modify, hne], rfl, rfl, rfl⟩
instance {x0 x1 x2 x3 x4 x5 p v x8 : Value} {l : By} {n : Nat} {L2 L3 : List (Nat × Ent)} [h : At w0 F w L] [r : Rm L b (cells [x0, x1, x2, x3, x4, x5, p, v, x8] Y_unpack_reader) L2] [rv : RmV L2 v n (u8s l) Y_uint8 1 L3] : Step (Gv Try.prog F_strings_Builder_String #[.pointer (some ⟨b, 6, none⟩)] w K)
    ((l = [] → v = .slice none 0 0) ∧ ∀ w', At w0 F w' ((b, cells [x0, x1, x2, x3, x4, x5, p, v, x8] Y_unpack_reader) :: L3) → K (str l) w') := ⟨fun ⟨hv, hk⟩ => by
  obtain ⟨k, hpm⟩ := rv.perm
  have hA : At w0 F w ((b, cells [x0, x1, x2, x3, x4, x5, p, v, x8] Y_unpack_reader) :: (0, own v n (u8s l) Y_uint8 1) :: L3) := (((h.perm (r.perm.trans ((hpm.cons _).trans (List.Perm.swap _ _ _)))).okey 0)).perm (List.Perm.swap _ _ _)
  have ho := hA.owns (inferInstance : RmV _ v n (u8s l) Y_uint8 1 _)
  have hln : l.length = n := by have := ho.1; simpa [u8s] using this
  have hsl : SlV v n := own_slv ho
  clear h rv r
  refine ok_strings_Builder_String ?_
  unfold T_strings_Builder_String
  cases l with
  | nil =>
    obtain rfl := hv rfl
    simp only [List.length_nil] at hln
    subst hln
    repeat' (first | refine Step.out ?_ | refine And.intro (fun h => ?_) (fun h => ?_) | intro _ | refine GW.i64 (by omega) ?_ | refine GW.u32 (by omega) ?_ | refine GW.u64 (by omega) ?_ | refine GW.u8 (by omega) ?_ | refine GW.u16 (by omega) ?_ | refine And.intro rfl ?_ | refine And.intro (by assumption) ?_ | refine And.intro (by omega) ?_ | refine And.intro (by simp only [List.length_append, List.length_replicate, List.length_drop, List.length_take, List.length_cons, List.length_nil, u8s_len, be_length]; omega) ?_ | fail)
    refine ⟨.pointer none, fun w => rfl, ?_⟩
    repeat' (first | refine Step.out ?_ | refine And.intro (fun h => ?_) (fun h => ?_) | intro _ | refine GW.i64 (by omega) ?_ | refine GW.u32 (by omega) ?_ | refine GW.u64 (by omega) ?_ | refine GW.u8 (by omega) ?_ | refine GW.u16 (by omega) ?_ | refine And.intro rfl ?_ | refine And.intro (by assumption) ?_ | refine And.intro (by omega) ?_ | refine And.intro (by simp only [List.length_append, List.length_replicate, List.length_drop, List.length_take, List.length_cons, List.length_nil, u8s_len, be_length]; omega) ?_ | fail)
    have hus := fun w => Go.Lib.run_unsafeString_none (P := Try.prog) w Y_p_uint8 Y_int Y_string none
    refine ⟨_, _, hus _, ?_⟩
    rename_i hA1
    exact hk _ ((hA1.perm (List.Perm.swap _ _ _)).drop)
  | cons c l =>
    rcases hsl.h with ⟨rfl, e⟩ | ⟨g, cap, rfl, hc⟩
    · simp at hln; omega
    · have hc0 : cap ≠ 0 := by simp at hln; omega
      repeat' (first | refine Step.out ?_ | refine And.intro (fun h => ?_) (fun h => ?_) | intro _ | refine GW.i64 (by omega) ?_ | refine GW.u32 (by omega) ?_ | refine GW.u64 (by omega) ?_ | refine GW.u8 (by omega) ?_ | refine GW.u16 (by omega) ?_ | refine And.intro rfl ?_ | refine And.intro (by assumption) ?_ | refine And.intro (by omega) ?_ | refine And.intro (by simp only [List.length_append, List.length_replicate, List.length_drop, List.length_take, List.length_cons, List.length_nil, u8s_len, be_length]; omega) ?_ | fail)
      refine ⟨.pointer (some ⟨g, 0, none⟩), fun w => Go.Lib.run_unsafeSliceData_row (P := Try.prog) w #[Y_sl_uint8] Y_p_uint8 ⟨g, 0, none⟩ n cap hc0, ?_⟩
      repeat' (first | refine Step.out ?_ | refine And.intro (fun h => ?_) (fun h => ?_) | intro _ | refine GW.i64 (by omega) ?_ | refine GW.u32 (by omega) ?_ | refine GW.u64 (by omega) ?_ | refine GW.u8 (by omega) ?_ | refine GW.u16 (by omega) ?_ | refine And.intro rfl ?_ | refine And.intro (by assumption) ?_ | refine And.intro (by omega) ?_ | refine And.intro (by simp only [List.length_append, List.length_replicate, List.length_drop, List.length_take, List.length_cons, List.length_nil, u8s_len, be_length]; omega) ?_ | fail)
      rename_i w1 hA1
      have ho1 := hA1.owns (inferInstance : RmV _ (.slice (some ⟨g, 0, none⟩) n cap) n (u8s (c :: l)) Y_uint8 1 _)
      have hshape : ∃ cl, w1.shape? g = some (Y_uint8, cl) ∧ n ≤ cl ∧ n ≤ 9223372036854775807 := by
        rcases ho1.2 with ⟨h', _⟩ | ⟨g2, cap2, cur, h', hb, hg, hnc, hcm, hcs, htake⟩
        · simp at h'
        · simp only [Value.slice.injEq, Option.some.injEq, Addr.mk.injEq, and_true, true_and] at h'
          obtain ⟨rfl, rfl⟩ := h'
          exact ⟨cur.size, by simp [World.shape?, hg], by omega, by unfold maxLen at hcm; omega⟩
      obtain ⟨cl, hsh, hcl, hcm⟩ := hshape
      have hus := Go.Lib.run_unsafeString_row (P := Try.prog) w1 Y_p_uint8 Y_int Y_string Y_uint8 (by kernel_rfl) (by kernel_rfl) g cl hsh (c :: l) (by simp) (by omega) (by omega) (fun j x hx => ho1.cells (g := g) rfl j (.int .u8 x.toNat) (by simp only [u8s, List.getElem?_map, hx]; rfl))
      rw [hln] at hus
      refine ⟨_, _, hus, ?_⟩
      exact hk _ (At.froze (hA1.perm (List.Perm.swap _ _ _)))⟩

instance {s : By} {fo : Bool} {t : RdS} [h : At w0 F w L] [r : Rm L b (ureader s fo t) L'] : Step (Gv Try.prog F_unpack_reader_told #[ptr b] w K) (∀ w', At w0 F w' L' → K (.tuple #[str t.told.1, .int .i64 t.told.2.1, .int .i64 t.told.2.2]) w') := ⟨fun hk => by
  have hA := h.perm r.perm
  clear h r
  obtain ⟨h1, p, v, h2, h3, h4, hA⟩ := ureader_open hA
  refine ok_unpack_reader_told ?_
  unfold T_unpack_reader_told
  unfold RdS.told at hk
  repeat' (first | refine Step.out ?_ | refine And.intro (fun h => ?_) (fun h => ?_) | intro _ | refine GW.i64 (by omega) ?_ | refine GW.u32 (by omega) ?_ | refine GW.u64 (by omega) ?_ | refine GW.u8 (by omega) ?_ | refine GW.u16 (by omega) ?_ | refine And.intro rfl ?_ | refine And.intro (by assumption) ?_ | refine And.intro (by omega) ?_ | refine And.intro (by simp only [List.length_append, List.length_replicate, List.length_drop, List.length_take, List.length_cons, List.length_nil, u8s_len, be_length]; omega) ?_ | fail)
  · rename_i hA1
    rw [if_pos (by assumption)] at hk; exact hk _ (hA1.sb)
  · exact h3 ‹_›
  · rename_i hA1
    rw [if_neg (by assumption)] at hk; exact hk _ (hA1.sb)⟩

theorem rdName_eq {s : By} {a : Int} (h : ¬ (a < 0 ∨ s.length < a)) (fo : Bool) : rdName s a fo = ((rdInit a.toNat).run s fo ((rdInit a.toNat).mu s + 1)).told := by rw [rdName, if_neg h]
theorem told_bad {b : Nat} {x0 x1 x2 x3 x4 x5 x6 x7 : Value} (h : At w0 F w ((b, cells [x0, x1, x2, x3, x4, x5, x6, x7, .int .i64 2] Y_unpack_reader) :: L)) (hk : ∀ w', At w0 F w' L → K (.tuple #[str [], .int .i64 0, .int .i64 2]) w') : Gv Try.prog F_unpack_reader_told #[ptr b] w K := by
  refine ok_unpack_reader_told ?_
  unfold T_unpack_reader_told
  repeat' (first | refine Step.out ?_ | refine And.intro (fun h => ?_) (fun h => ?_) | intro _ | refine GW.i64 (by omega) ?_ | refine GW.u32 (by omega) ?_ | refine GW.u64 (by omega) ?_ | refine GW.u8 (by omega) ?_ | refine GW.u16 (by omega) ?_ | refine And.intro rfl ?_ | refine And.intro (by assumption) ?_ | refine And.intro (by omega) ?_ | refine And.intro (by simp only [List.length_append, List.length_replicate, List.length_drop, List.length_take, List.length_cons, List.length_nil, u8s_len, be_length]; omega) ?_ | fail)
  · rename_i hA1; exact hk _ hA1.drop
  · exact absurd (by decide) ‹¬ ¬ (2 : Int) = 0›
instance {s : By} {a : Int} [h : At w0 F w L] : Step (Gv Try.prog F_unpack_Name #[str s, .int .i64 a] w K) (s.length ≤ 1099511627776 ∧ ∀ w', At w0 F w' L → K (.tuple #[str (rdName s a true).1, .int .i64 (rdName s a true).2.1, .int .i64 (rdName s a true).2.2]) w') := ⟨fun ⟨hs, hk⟩ => by
  refine ok_unpack_Name ?_
  unfold T_unpack_Name
  by_cases ha : a < 0 ∨ s.length < a
  · refine c_read_bad ha h fun b x0 x1 x2 x3 x4 x5 x6 x7 w' hA => told_bad hA fun w' hA => ?_
    rw [rdName, if_pos ha] at hk
    repeat' (first | refine Step.out ?_ | refine And.intro (fun h => ?_) (fun h => ?_) | intro _ | refine GW.i64 (by omega) ?_ | refine GW.u32 (by omega) ?_ | refine GW.u64 (by omega) ?_ | refine GW.u8 (by omega) ?_ | refine GW.u16 (by omega) ?_ | refine And.intro rfl ?_ | refine And.intro (by assumption) ?_ | refine And.intro (by omega) ?_ | refine And.intro (by simp only [List.length_append, List.length_replicate, List.length_drop, List.length_take, List.length_cons, List.length_nil, u8s_len, be_length]; omega) ?_ | fail)
    exact hk _ hA
  · obtain ⟨n, rfl⟩ : ∃ n : Nat, a = n := ⟨a.toNat, by omega⟩
    refine c_read hs (by omega) h fun b w' hA => ?_
    rw [rdName_eq ha, Int.toNat_natCast] at hk
    repeat' (first | refine Step.out ?_ | refine And.intro (fun h => ?_) (fun h => ?_) | intro _ | refine GW.i64 (by omega) ?_ | refine GW.u32 (by omega) ?_ | refine GW.u64 (by omega) ?_ | refine GW.u8 (by omega) ?_ | refine GW.u16 (by omega) ?_ | refine And.intro rfl ?_ | refine And.intro (by assumption) ?_ | refine And.intro (by omega) ?_ | refine And.intro (by simp only [List.length_append, List.length_replicate, List.length_drop, List.length_take, List.length_cons, List.length_nil, u8s_len, be_length]; omega) ?_ | fail)
    exact hk _ ‹_›⟩
instance {s : By} {a : Int} [h : At w0 F w L] : Step (Gv Try.prog F_unpack_Plain #[str s, .int .i64 a] w K) (s.length ≤ 1099511627776 ∧ ∀ w', At w0 F w' L → K (.tuple #[str (rdName s a false).1, .int .i64 (rdName s a false).2.1, .int .i64 (rdName s a false).2.2]) w') := ⟨fun ⟨hs, hk⟩ => by
  refine ok_unpack_Plain ?_
  unfold T_unpack_Plain
  by_cases ha : a < 0 ∨ s.length < a
  · refine c_read_bad ha h fun b x0 x1 x2 x3 x4 x5 x6 x7 w' hA => told_bad hA fun w' hA => ?_
    rw [rdName, if_pos ha] at hk
    repeat' (first | refine Step.out ?_ | refine And.intro (fun h => ?_) (fun h => ?_) | intro _ | refine GW.i64 (by omega) ?_ | refine GW.u32 (by omega) ?_ | refine GW.u64 (by omega) ?_ | refine GW.u8 (by omega) ?_ | refine GW.u16 (by omega) ?_ | refine And.intro rfl ?_ | refine And.intro (by assumption) ?_ | refine And.intro (by omega) ?_ | refine And.intro (by simp only [List.length_append, List.length_replicate, List.length_drop, List.length_take, List.length_cons, List.length_nil, u8s_len, be_length]; omega) ?_ | fail)
    exact hk _ hA
  · obtain ⟨n, rfl⟩ : ∃ n : Nat, a = n := ⟨a.toNat, by omega⟩
    refine c_read hs (by omega) h fun b w' hA => ?_
    rw [rdName_eq ha, Int.toNat_natCast] at hk
    repeat' (first | refine Step.out ?_ | refine And.intro (fun h => ?_) (fun h => ?_) | intro _ | refine GW.i64 (by omega) ?_ | refine GW.u32 (by omega) ?_ | refine GW.u64 (by omega) ?_ | refine GW.u8 (by omega) ?_ | refine GW.u16 (by omega) ?_ | refine And.intro rfl ?_ | refine And.intro (by assumption) ?_ | refine And.intro (by omega) ?_ | refine And.intro (by simp only [List.length_append, List.length_replicate, List.length_drop, List.length_take, List.length_cons, List.length_nil, u8s_len, be_length]; omega) ?_ | fail)
    exact hk _ ‹_›⟩
end
end Go.Proofs.Ytkpinncakbnikaa
namespace Go.Proofs.Ytkpinncakbnikaa
open Go Np Go.Proofs
set_option linter.all false
set_option maxRecDepth 20000
abbrev adV (a : Ad) : Value := .agg #[.bool a.six, .int .u64 a.hi, .int .u64 a.lo]
section
variable {w0 w : World} {F : Fp} {L L' : List (Nat × Ent)} {b : Nat} {K : Value → World → Prop}
theorem c_addr_Check (a : Ad) (ha : OkA a) (h : At w0 F w L) (hk : ∀ w', At w0 F w' L → K (.int .i64 (adChk a)) w') : Gv Try.prog F_addr_Check #[adV a] w K := by
  have := ha.hi
  have := ha.lo
  refine ok_addr_Check ?_
  unfold T_addr_Check
  repeat' (first | refine Step.out ?_ | refine And.intro (fun h => ?_) (fun h => ?_) | intro _ | refine GW.i64 (by omega) ?_ | refine GW.u32 (by omega) ?_ | refine GW.u64 (by omega) ?_ | refine GW.u8 (by omega) ?_ | refine GW.u16 (by omega) ?_ | refine And.intro rfl ?_ | refine And.intro (by assumption) ?_ | refine And.intro (by omega) ?_ | refine And.intro (by simp only [List.length_append, List.length_replicate, List.length_drop, List.length_take, List.length_cons, List.length_nil, u8s_len, be_length]; omega) ?_ | fail)
  · rw [adChk, if_pos ⟨by simpa using ‹¬ a.six = true›, .inl (by omega)⟩] at hk; exact hk _ (At.sb ‹_›)
  · rw [adChk, if_pos ⟨by simpa using ‹¬ a.six = true›, .inr (by omega)⟩] at hk; exact hk _ (At.sb ‹_›)
  · rw [adChk, if_neg (by omega)] at hk; exact hk _ (At.sb ‹_›)
  · rw [adChk, if_neg (by rintro ⟨h1, _⟩; simp_all)] at hk; exact hk _ (At.sb ‹_›)
instance {a : Ad} [h : At w0 F w L] : Step (Gv Try.prog F_addr_Check #[adV a] w K) (OkA a ∧ ∀ w', At w0 F w' L → K (.int .i64 (adChk a)) w') := ⟨fun ⟨h1, h2⟩ => c_addr_Check a h1 h h2⟩

theorem c_whole {v : Value} {n : Nat} {l : By} (hl : l.length ≤ 8) : Ct Try.prog F_addr_whole #[v] [(0, sl v n (u8s l) 1)] fun u B => u = .int .u64 (val l) ∧ B = [] := by
  intro w0 F w hA
  have hsl : SlG v n := hA.slG inferInstance
  have hln : l.length = n := by obtain ⟨s, hx⟩ := hA.sl (inferInstance : HasS _ v n (u8s l) 1); have := hx.2.1; rw [u8s_len] at this; omega
  refine ok_addr_whole ?_
  unfold T_addr_whole
  repeat' (first | refine Step.out ?_ | refine And.intro (fun h => ?_) (fun h => ?_) | intro _ | refine GW.i64 (by omega) ?_ | refine GW.u32 (by omega) ?_ | refine GW.u64 (by omega) ?_ | refine GW.u8 (by omega) ?_ | refine GW.u16 (by omega) ?_ | refine And.intro rfl ?_ | refine And.intro (by assumption) ?_ | refine And.intro (by omega) ?_ | refine And.intro (by simp only [List.length_append, List.length_replicate, List.length_drop, List.length_take, List.length_cons, List.length_nil, u8s_len, be_length]; omega) ?_ | fail)
  refine loopN (fun k s w => ∃ i : Nat, i + k = n ∧ s = [.int .u64 (val (l.take i)), v, .int .i64 n, .int .i64 i] ∧ At w0 F w [(0, sl v n (u8s l) 1)]) n ⟨0, by omega, by simp [val], ‹_›⟩ ?_
  rintro k ρ w ⟨i, hi, hs, hA⟩
  simp only [pick, List.cons.injEq, and_true] at hs
  obtain ⟨h0, h1, h2, h3⟩ := hs
  simp only [h0, h1, h2, h3]
  have hvb : i < n → val (l.take i) < 72057594037927936 := fun hlt => by
    have h1 := val_lt (l.take i)
    rw [List.length_take, Nat.min_eq_left (by omega)] at h1
    have h2 : 256 ^ i ≤ 256 ^ 7 := Nat.pow_le_pow_right (by decide) (by omega)
    omega
  repeat' (first | refine Step.out ?_ | refine And.intro (fun h => ?_) (fun h => ?_) | intro _ | refine GW.i64 (by omega) ?_ | refine GW.u32 (by omega) ?_ | refine GW.u64 (by omega) ?_ | refine GW.u8 (by omega) ?_ | refine GW.u16 (by omega) ?_ | refine And.intro rfl ?_ | refine And.intro (by assumption) ?_ | refine And.intro (by omega) ?_ | refine And.intro (by simp only [List.length_append, List.length_replicate, List.length_drop, List.length_take, List.length_cons, List.length_nil, u8s_len, be_length]; omega) ?_ | fail)
  · simp only [Int.toNat_natCast] at *
    refine OW.u64 (q := ((val (l.take i) : Nat) : Int)) 8 rfl (Int.natCast_nonneg _) (by omega) (by omega) ?_
    repeat' (first | refine Step.out ?_ | refine And.intro (fun h => ?_) (fun h => ?_) | intro _ | refine GW.i64 (by omega) ?_ | refine GW.u32 (by omega) ?_ | refine GW.u64 (by omega) ?_ | refine GW.u8 (by omega) ?_ | refine GW.u16 (by omega) ?_ | refine And.intro rfl ?_ | refine And.intro (by assumption) ?_ | refine And.intro (by omega) ?_ | refine And.intro (by simp only [List.length_append, List.length_replicate, List.length_drop, List.length_take, List.length_cons, List.length_nil, u8s_len, be_length]; omega) ?_ | fail)
    refine ⟨k - 1, by omega, i + 1, by omega, ?_, ‹_›⟩
    rw [val_take_succ l i (by omega)]
    simp
  · have e : l.take i = l := List.take_of_length_le (by omega)
    rw [e]
    exact ⟨_, ⟨rfl, rfl⟩, At.sb ‹_›⟩
instance {v : Value} {n : Nat} {l : By} [h : At w0 F w L] [r : HasS L v n (u8s l) 1] : Step (Gv Try.prog F_addr_whole #[v] w K) (l.length ≤ 8 ∧ ∀ w', At w0 F w' L → K (.int .u64 (val l)) w') :=
  ⟨fun ⟨hl, hk⟩ => Ct.readS (φ := fun u => u = .int .u64 (val l)) (c_whole hl) h r fun u w' hu hA => by rw [hu]; exact hk w' hA⟩
instance {x0 x1 x2 x3 : UInt8} [h : At w0 F w L] : Step (Gv Try.prog F_addr_Four #[.int .u8 x0.toNat, .int .u8 x1.toNat, .int .u8 x2.toNat, .int .u8 x3.toNat] w K)
    (∀ w', At w0 F w' L → K (adV ⟨false, 0, val [x0, x1, x2, x3]⟩) w') := ⟨fun hk => by
  refine ok_addr_Four ?_
  unfold T_addr_Four
  repeat' (first | refine Step.out ?_ | refine And.intro (fun h => ?_) (fun h => ?_) | intro _ | refine GW.i64 (by omega) ?_ | refine GW.u32 (by omega) ?_ | refine GW.u64 (by omega) ?_ | refine GW.u8 (by omega) ?_ | refine GW.u16 (by omega) ?_ | refine And.intro rfl ?_ | refine And.intro (by assumption) ?_ | refine And.intro (by omega) ?_ | refine And.intro (by simp only [List.length_append, List.length_replicate, List.length_drop, List.length_take, List.length_cons, List.length_nil, u8s_len, be_length]; omega) ?_ | fail)
  rename_i b1 w1 hA1 b2 w2 hA2
  have hA3 : At w0 F w2 ((b2, sl (.slice (some ⟨b2, 0, none⟩) 4 4) 4 (u8s [x0, x1, x2, x3]) 1) :: (b1, cells [.bool false, .int .u64 0, .int .u64 0] Y_api_Addr) :: L) := hA2.freeze
  clear hA1 hA2
  repeat' (first | refine Step.out ?_ | refine And.intro (fun h => ?_) (fun h => ?_) | intro _ | refine GW.i64 (by omega) ?_ | refine GW.u32 (by omega) ?_ | refine GW.u64 (by omega) ?_ | refine GW.u8 (by omega) ?_ | refine GW.u16 (by omega) ?_ | refine And.intro rfl ?_ | refine And.intro (by assumption) ?_ | refine And.intro (by omega) ?_ | refine And.intro (by simp only [List.length_append, List.length_replicate, List.length_drop, List.length_take, List.length_cons, List.length_nil, u8s_len, be_length]; omega) ?_ | fail)
  exact hk _ (At.sb ‹_›)⟩
instance {s : By} [h : At w0 F w L] : Step (Gv Try.prog F_addr_Of #[str s] w K)
    (∀ w', At w0 F w' L → K (.tuple #[adV (adOf s).1, .int .i64 (adOf s).2]) w') := ⟨fun hk => by
  refine ok_addr_Of ?_
  unfold T_addr_Of
  unfold adOf at hk
  repeat' (first | refine Step.out ?_ | refine And.intro (fun h => ?_) (fun h => ?_) | intro _ | refine GW.i64 (by omega) ?_ | refine GW.u32 (by omega) ?_ | refine GW.u64 (by omega) ?_ | refine GW.u8 (by omega) ?_ | refine GW.u16 (by omega) ?_ | refine And.intro rfl ?_ | refine And.intro (by assumption) ?_ | refine And.intro (by omega) ?_ | refine And.intro (by simp only [List.length_append, List.length_replicate, List.length_drop, List.length_take, List.length_cons, List.length_nil, u8s_len, be_length]; omega) ?_ | fail)
  · rename_i hA
    have h4 : s.length = 4 := by omega
    rw [if_pos h4] at hk
    match s, h4 with
    | [x0, x1, x2, x3], _ => exact hk _ (At.sb hA)
  · rename_i b1 w1 hA1 b2 c2 w2 hc hA2 hn w3 hA3
    have h16 : s.length = 16 := by omega
    rw [if_neg (by omega), if_pos h16] at hk
    have hA4 := At.slSub hA3 (inferInstance : HasS _ (.slice (some ⟨b2, 0, none⟩) s.length c2) s.length (u8s s) 1) (i := 8) (m := 8) (c' := c2 - 8) (by omega) (by omega)
    have hA5 := At.slSub hA4 (inferInstance : HasS _ (.slice (some ⟨b2, 0, none⟩) s.length c2) s.length (u8s s) 1) (i := 0) (m := 8) (c' := c2) (by omega) (by omega)
    rw [show (0 : Nat) + 0 * 1 = 0 from rfl, show (8 : Nat) * 1 = 8 from rfl, ← u8s_drop, ← u8s_drop, ← u8s_take, ← u8s_take] at hA5
    simp only [Nat.zero_mul, List.drop_zero] at hA5
    clear hA1 hA2 hA3 hA4
    rw [show List.length s - Int.toNat 8 = 8 from by rw [h16]; rfl, show (0 + Int.toNat 8 * 1) = 0 + 8 from rfl]
    simp only [show Int.toNat 8 = 8 from rfl]
    repeat' (first | refine Step.out ?_ | refine And.intro (fun h => ?_) (fun h => ?_) | intro _ | refine GW.i64 (by omega) ?_ | refine GW.u32 (by omega) ?_ | refine GW.u64 (by omega) ?_ | refine GW.u8 (by omega) ?_ | refine GW.u16 (by omega) ?_ | refine And.intro rfl ?_ | refine And.intro (by assumption) ?_ | refine And.intro (by omega) ?_ | refine And.intro (by simp only [List.length_append, List.length_replicate, List.length_drop, List.length_take, List.length_cons, List.length_nil, u8s_len, be_length]; omega) ?_ | fail)
    have e2 : (s.drop 8).take 8 = s.drop 8 := List.take_of_length_le (by simp; omega)
    rw [e2]
    exact hk _ (At.sb ‹_›)
  · rw [if_neg (by omega), if_neg (by omega)] at hk
    exact hk _ (At.sb ‹_›)⟩
end
end Go.Proofs.Ytkpinncakbnikaa
