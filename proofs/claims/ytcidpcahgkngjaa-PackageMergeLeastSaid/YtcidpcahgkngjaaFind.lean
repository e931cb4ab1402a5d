/-
  What canonical.Find and canonical.First compute. Conditions: as each theorem states.
-/
import Derived.Test.YtcidpcahgkngjaaRef07s
import Derived.Test.YtcidpcahgkngjaaMap
namespace Go.Proofs.Ytcidpcahgkngjaa
open Go Go.Vc Go.Srt
section
variable {E w : World} {F : List HP}
def keySp (a : Int × Int) : Value := .agg ⟨[.int .u32 a.1, .int .i64 a.2]⟩
def valSp (z : Int) : Value := .int .i64 z
theorem checkSp (e : Bool) (c n : Int) (w : World) : (Instr.checkKey e 10000 73 (.agg ⟨[.int .u32 c, .int .i64 n]⟩)).run Try.prog w = .ok () w := by kernel_rfl
theorem eqSp (c n d m : Int) : eqV Try.prog 8 73 (.agg ⟨[.int .u32 c, .int .i64 n]⟩) (.agg ⟨[.int .u32 d, .int .i64 m]⟩) (fun r => r = ((c == d) && (n == m))) := by
  have e : eqV Try.prog 8 73 (.agg ⟨[.int .u32 c, .int .i64 n]⟩) (.agg ⟨[.int .u32 d, .int .i64 m]⟩) (fun r => r = ((c == d) && (n == m))) = (((c == d) && (n == m)) = ((c == d) && (n == m))) := by kernel_rfl
  rw [e]
theorem keyOk_sp : KeyOk Try.prog (α := Int × Int) 73 keySp where
  und := ⟨_, rfl, fun a b => .inl rfl⟩
  check := fun e a w => checkSp e a.1 a.2 w
  eq := fun a b w => by
    obtain ⟨r, h1, h2⟩ := eqV_sound 8 _ _ _ _ (eqSp a.1 a.2 b.1 b.2)
    have := h1 10000 (by decide) w
    have e : decide (a = b) = ((a.1 == b.1) && (a.2 == b.2)) := by
      rw [Bool.eq_iff_iff]
      simp [Prod.ext_iff]
    rw [e, ← h2]; exact this
  same := fun a => by
    unfold keySp Instr.sameBits
    simp [Instr.sameBits]
theorem ty_map : Try.prog.underlying 71 = some (.map 73 3) := by kernel_rfl
/-- the map of Find, of the first symbols in order -/
def spell (l ys : List Nat) : Nat → List ((Int × Int) × Int)
  | 0 => []
  | k + 1 => updAt (((codesTo l ys ys.length).getD (ys.getD k 0) 0 : Int), (l.getD (ys.getD k 0) 0 : Int)) (ys.getD k 0 : Int) (spell l ys k)
def foundI (o : Option (Nat × Int)) : Int := match o with | some q => q.2 | none => 0
theorem ord_in {l ys : List Nat} (hl : l.length = 258) (h : IsOrd l ys) : ∀ s ∈ ys, s < 258 ∧ 0 < l.getD s 0 := fun s hs => by
  have := used_mem.1 (h.1.mem_iff.1 hs)
  rw [hl] at this; exact this
theorem ord_le {l ys : List Nat} (hl : l.length = 258) (h : IsOrd l ys) : ys.length ≤ 258 := by
  rw [h.1.length_eq, ← hl]
  have := List.length_filter_le (fun s => decide (0 < l.getD s 0)) (List.range l.length)
  simpa [used] using this
theorem ord_same {l ys zs : List Nat} (h : IsOrd l ys) (h2 : IsOrd l zs) : ys = zs := by
  refine List.Perm.eq_of_pairwise (le := fun a b => l.getD a 0 < l.getD b 0 ∨ (l.getD a 0 = l.getD b 0 ∧ a < b)) ?_ h.2 h2.2 (h.1.trans h2.1.symm)
  intro a b _ _ h3 h4
  omega
theorem codesTo_lt {l ys : List Nat} (hl : l.length = 258) (hv : ksum l ≤ 32768) (h : IsOrd l ys) {k : Nat} (hk : k < ys.length) : (codesTo l ys ys.length).getD ys[k] 0 = codeAt l ys k ∧ codeAt l ys k < 2 ^ l.getD ys[k] 0 ∧ codeAt l ys k < 32768 := by
  have h1 := codeAt_lt hv h hk
  have h2 := len15 hv ys[k]
  have h3 : 2 ^ l.getD ys[k] 0 ≤ 2 ^ 15 := Nat.pow_le_pow_right (by decide) h2
  exact ⟨codesTo_at h (fun s hs => (ord_in hl h s hs).1) _ (Nat.le_refl _) k hk hk, h1, by omega⟩
theorem getI {l : List Nat} {i : Nat} {k : IntKind} (h : i < l.length) : (ai k l)[((i : Nat) : Int).toNat]? = some (Sc.enc (.int k) (l.getD i 0 : Int)) := by
  rw [Int.toNat_natCast, ai_get h, List.getD_eq_getElem?_getD, List.getElem?_eq_getElem h]; rfl
set_option maxRecDepth 20000 in
theorem find_c {l : List Nat} {code length : Int} {K : Int → Bool → World → Prop} (h : Hp E w F) (hl : l.length = 258) (hv : ksum l ≤ 32768)
    (hK : ∀ ys w', IsOrd l ys → Hp E w' F → K (foundI (findAt (code, length) (spell l ys ys.length) 0)) (findAt (code, length) (spell l ys ys.length) 0).isSome w') :
    Cl Try.prog [kI, kB] n_canonical_Find ⟨[.agg (ai .u8 l), .int .u32 code, .int .i64 length]⟩ w K := by
  refine canonical_Find.ok _ _ _ _ _ ?_
  unfold canonical_Find.E
  rw [ai_zero]
  refine Nw.mk h fun b w1 h1 => Ld.arr h1 (by rw [ai_size, hl]) (codes_c h1 hl (fun hn => absurd hv hn) fun _ ys w2 hys h2 => ?_)
  have hlen := ord_le hl hys
  refine Nw.mk h2 fun b2 w3 h3 => StA.blk h3 (by rw [ai_size]; simp) (by rw [ai_size, codesTo_len]) ai_scalar fun w4 h4 => ?_
  refine run_makeMap (α := Int × Int) (β := Int) (ke := keySp) (ve := valSp) h4 fun m w5 h5 => Ld.arr h5.p2 (by rw [ai_size, hl]) (order_c h5 hl (fun hn => absurd hv hn) fun _ zs s w6 hzs h6 => ?_)
  obtain rfl := ord_same hys hzs
  have hpl := h6.ownLen
  simp only [ints, List.length_map, Nat.mul_one] at hpl
  refine ⟨fun i w' => ∃ k : Nat, i = (k : Int) ∧ k ≤ ys.length ∧ Hp E w' (OwnM keySp valSp m (spell l ys k) :: Blk b2 (.cells (ai .u32 (codesTo l ys ys.length)) 28 (0, 0)) :: Blk b (.cells (ai .u8 l) 23 (0, 0)) :: OwnS 1 s ((ints ys).map vI) :: F), fun i _ => ys.length - i.toNat, ⟨0, rfl, by omega, h6.q3⟩, ?_⟩
  rintro i w' ⟨k, rfl, hk, hh⟩
  refine IfB.mk (fun hlt => ?_) (fun hge => ?_)
  · have hlt : k < ys.length := by have := of_decide_eq_true hlt; omega
    have hin := ord_in hl hys _ (List.getElem_mem hlt)
    refine rdI hh.p3 (by omega) (x := (ys[k] : Int)) (by simp [ints, hlt]) ?_
    refine Drw.mk hh fun w7 h7 => ?_
    refine IdxP.rd (s := .int .u32) h7.p1 (by omega) (by omega) _ (getI (by rw [codesTo_len]; omega)) ?_
    refine IdxP.rd (s := .int .u8) h7.p2 (by omega) (by omega) _ (getI (by omega)) ?_
    have h15 := len15 hv ys[k]
    rw [i64_id (x := (l.getD ys[k] 0 : Int)) (by omega), i64_id (by omega)]
    refine run_mapUpdate (ve := valSp) (a := (((codesTo l ys ys.length).getD ys[k] 0 : Int), (l.getD ys[k] 0 : Int))) (b := (ys[k] : Int)) keyOk_sp ty_map h7 fun w8 h8 => ?_
    refine ⟨⟨k + 1, rfl, by omega, ?_⟩, by dsimp only; omega⟩
    unfold spell
    rw [getD_at hlt]; exact h8
  · have hge : k = ys.length := by have := of_decide_eq_false hge; omega
    subst hge
    unfold RunR
    have := run_lookup (P := Try.prog) (t := 71) keyOk_sp ty_map (a := (code, length)) (z := .int .i64 0) (fun w => by kernel_rfl) hh
    have e : keySp (code, length) = .agg ⟨[.int .u32 code, .int .i64 length]⟩ := rfl
    rw [e] at this
    rw [this]
    have hk := hK ys w' hys hh.drop.drop.drop.drop
    generalize findAt (code, length) (spell l ys ys.length) 0 = o at hk ⊢
    cases o with
    | none => exact hk
    | some q => exact hk
end
end Go.Proofs.Ytcidpcahgkngjaa
