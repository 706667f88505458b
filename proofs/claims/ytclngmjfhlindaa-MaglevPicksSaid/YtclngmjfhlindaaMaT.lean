/- The document's rows of places; its sorting. -/
import Derived.Test.YtclngmjfhlindaaMaO
namespace Go.Proofs.Ytclngmjfhlindaa.Ma
open Go.RowKit Go.Proofs.Ytclngmjfhlindaa.Sip
set_option linter.unusedVariables false
theorem refMod_any (a m : Nat) (hm : 1 ≤ m) (ha : a < m) (hm2 : m ≤ 1048576) (w : World) :
    Calls Try.prog 48 #[.int .i64 a, .int .i64 m] w fun e w' => e = .returned (.int .i64 a) ∧ w' = w := by
  have h1 : (a : Int).tmod (m : Int) = (a : Int) := by
    have : (a : Int).tmod (m : Int) = ((a % m : Nat) : Int) := rfl
    rw [this, Nat.mod_eq_of_lt ha]
  have h2 : ¬ (a : Int) < 0 := by omega
  have h3 : ¬ (m : Int) = 0 := by omega
  have h4 : ¬ m = 0 := by omega
  have h5 : 0 < m := by omega
  go_enter Try.func48, Try.ntmps48
  go_wp2
  go_ret
  exact ⟨rfl, rfl⟩
def rowI (m f s k : Nat) : List Value := (List.range k).map (fun i => Value.int .i64 (((f + i * s) % m : Nat) : Int))
theorem rowI_succ (m f s k : Nat) : rowI m f s (k + 1) = rowI m f s k ++ [.int .i64 (((f + k * s) % m : Nat) : Int)] := by
  unfold rowI
  rw [List.range_succ, List.map_append]; rfl
set_option maxRecDepth 100000 in
set_option maxHeartbeats 2000000 in
theorem refRow_any (m f s : Nat) (hm : 1 ≤ m) (hm2 : m ≤ 1048576) (hf : f < m) (hs : s < m) (w : World) :
    Calls Try.prog 35 #[.int .i64 m, .int .i64 f, .int .i64 s] w fun e w' => ∃ v, e = .returned v ∧ w'.ownsRow w.heap.size 3 1 v m (rowI m f s m) ∧ Below w.heap.size w w' := by
  obtain ⟨i0, hi, hz0, hz1, hz2⟩ := info_parts infoI
  have hb0 : Below w.heap.size w w := Below.refl _ _
  have d1 := fun W => refMod_any f m hm hf hm2 W
  have d2 := fun W => refMod_any s m hm hs hm2 W
  go_enter Try.func35, Try.ntmps35
  go_wp2
  have ho0 : (w.alloc (.cells #[] 3)).ownsRow w.heap.size 3 1 (.slice (some ⟨w.heap.size, 0, none⟩) 0 0) 0 (rowI m f s 0) := World.ownsRow_lit w #[] 0 (Nat.le_refl _) (by unfold maxLen; omega) rfl
  have hb1 := hb0.alloc (Nat.le_refl _) (.cells #[] 3)
  generalize w.alloc (.cells #[] 3) = w0 at *
  generalize hg : w.heap.size = g at *
  go_loopw [7, 8] (fun u i wr => ∃ (k : Nat) (u0 : Value), u0 = u ∧ k ≤ m ∧ i = .int .i64 k ∧ wr.ownsRow g 3 1 u k (rowI m f s k) ∧ Below g w wr) (fun _ i _ => m - (intOf i).toNat)
  case atStart => exact ⟨0, _, rfl, Nat.zero_le _, rfl, ho0, hb1⟩
  case round =>
    obtain ⟨k, u, rfl, hk, rfl, hown, hb⟩ := hrel
    by_cases c1 : k < m
    · have hnx := Lib.hid (rowI_succ m f s k)
      have hgw : g ≤ wr.heap.size := by have := hb.size; omega
      have hks : k * s ≤ 1099511627776 := by
        have := Nat.mul_le_mul (show k ≤ 1048576 by omega) (show s ≤ 1048576 by omega)
        omega
      have x0 : (k : Int) * (s : Int) = ((k * s : Nat) : Int) := rfl
      have x1 : IntKind.i64.wrap (((k * s : Nat)) : Int) = ((k * s : Nat) : Int) := IntWalk.i64_in _ (by omega)
      have x2 : IntKind.i64.wrap ((f : Int) + ((k * s : Nat) : Int)) = (f : Int) + ((k * s : Nat) : Int) := IntWalk.i64_in _ (by omega)
      have x3 : ((f : Int) + ((k * s : Nat) : Int)).tmod (m : Int) = (((f + k * s) % m : Nat) : Int) := rfl
      have x4 : ¬ (m : Int) = 0 := by omega
      have x5 : ¬ m = 0 := by omega
      have x6 : IntKind.i64.wrap ((k : Int) + 1) = (k : Int) + 1 := IntWalk.i64_in _ (by omega)
      generalize k * s = ks at *
      generalize (f + ks) % m = pv at *
      have hbk := heap_alloc_new wr (Obj.cells #[.int .i64 (pv : Int)] 3)
      go_wp2_with (first
        | (go_at_call 48; with_reducible refine (d1 _).mono ?_; rintro e w1 ⟨rfl, hw⟩; rw [hw]; clear hw w1)
        | (go_at_call 48; with_reducible refine (d2 _).mono ?_; rintro e w1 ⟨rfl, hw⟩; rw [hw]; clear hw w1)
        | (at_builtin; go_must (refine wpList_append_own _ rfl _ _ 43 rfl g 3 i0 _ 1 8 Try.underlying43 hi hz0 hz1 hz2 rfl (by decide) _ _ _ rfl (hown.alloc _) ⟨_, 0, none⟩ 1 1 [.int .i64 (pv : Int)] rfl rfl (World.news_of_block hbk) (by simp [Value.oneCell']) (by unfold maxLen; omega) (by omega) (by simp; omega) ?_; intro v' w5 hown' hgrow _)))
      go_roundw
      case rel => exact ⟨k + 1, _, rfl, by omega, by go_num, by rw [hnx.out]; exact hown', grow_low (hb.alloc hgw _) (by simp; omega) hgrow (fun b e => (hown.lt b e).1)⟩
      case measure => simp [intOf]; omega
    · have hkm : k = m := by omega
      subst hkm
      go_wp2
      go_ret
      refine ⟨u, rfl, ?_, ?_⟩ <;> (try rw [hg])
      · exact hown
      · exact hb
theorem step_append_own {P : Program} {w : World} {ops : Array Oper} {o : Oper} {a : Act} {K : Act → World → Prop} {Q : Exit → Act → World → Prop} {E : Prop} (hgd : o.guard = none) (s x : Operand) (t : TypeId)
    (ho : o.op = .call { callee := .builtin .append, args := #[s, x], argTypes := #[t, t] })
    (base : Nat) (e : TypeId) (i : TypeInfo) (z : Value) (size bytes : Nat) (ht : P.underlying t = some (.slice e)) (hi : P.info? e = some i) (hz : i.zero = some z)
    (hsize : i.size = size) (hby : i.bytes = bytes) (hzs : z.cells.size = size) (hsz : 0 < size)
    (v : Value) (n : Nat) (xs : List Value) (hs : a.eval s = v) (hown : w.ownsRow base e size v n xs)
    (ad : Addr) (m c : Nat) (news : List Value) (hx : a.eval x = .slice (some ad) m c) (hl : news.length = m * size) (hnews : ∀ j u, news[j]? = some u → w.cell? (ad.add j) = some u) (h1 : ∀ u ∈ news, u.oneCell' = true)
    (h63 : n + m ≤ maxLen) (hbytes : (n + m) * bytes ≤ 140737488355328) (hbase : base ≤ w.heap.size)
    (h : ∀ v' w', w'.ownsRow base e size v' (n + m) (xs ++ news) → w.grownBy w' v.ownBlock → K (a.put o.dst v') w') :
    if Region.wanted o (yielded ops a.tmps) = true then Oper.wp P o a w K Q else E := by
  have hw : Region.wanted o (yielded ops a.tmps) = true := by simp [Region.wanted, hgd]
  rw [if_pos hw]
  exact wp_append_own w s x t ho base e i z size bytes ht hi hz hsize hby hzs hsz v n xs hs hown ad m c news hx hl hnews h1 h63 hbytes hbase (fun v' w' h2 h3 _ => h v' w' h2 h3)
theorem ownsRow_prefix {w : World} {base g cap n k size : Nat} {e : TypeId} {xs : List Value} (h : w.ownsRow base e size (.slice (some ⟨g, 0, none⟩) n cap) n xs) (hk : k ≤ n) : w.ownsRow base e size (.slice (some ⟨g, 0, none⟩) k cap) k (xs.take (k * size)) := by
  obtain ⟨h1, h2⟩ := h
  have hks : k * size ≤ n * size := Nat.mul_le_mul_right size hk
  rcases h2 with ⟨h0, _⟩ | ⟨g', cap', cur, hv, hb, hg, h3, h4, h5, h6⟩
  · cases h0
  · cases hv
    refine ⟨by rw [List.length_take, h1]; omega, .inr ⟨g, cap, cur, rfl, hb, hg, by omega, h4, h5, ?_⟩⟩
    rw [← h6, List.take_take, Nat.min_eq_left hks]
/-- Put in its place. -/
def insE (l : List Ent) (e : Ent) : List Ent := l.takeWhile (fun x => decide (x.1 < e.1)) ++ e :: l.dropWhile (fun x => decide (x.1 < e.1))
theorem split_at (p : Ent → Bool) : ∀ (l : List Ent) (k : Nat), (∀ x ∈ l.take k, p x = true) → (k = l.length ∨ ∃ x, l[k]? = some x ∧ p x = false) → l.takeWhile p = l.take k ∧ l.dropWhile p = l.drop k
  | [], k, _, _ => by simp
  | x :: l, 0, _, h => by
    rcases h with h | ⟨y, hy, hp⟩
    · simp at h
    · cases hy
      simp [hp]
  | x :: l, k + 1, h1, h2 => by
    have hx : p x = true := h1 x (by simp)
    obtain ⟨i1, i2⟩ := split_at p l k (fun y hy => h1 y (by simp; exact .inr hy)) (by
      rcases h2 with h2 | ⟨y, hy, hp⟩
      · left; simpa using h2
      · exact .inr ⟨y, by simpa using hy, hp⟩)
    simp [hx, i1, i2]
theorem insE_at (l : List Ent) (e : Ent) (k : Nat) (h1 : ∀ x ∈ l.take k, x.1 < e.1) (h2 : k = l.length ∨ ∃ x, l[k]? = some x ∧ ¬ x.1 < e.1) : insE l e = l.take k ++ e :: l.drop k := by
  obtain ⟨i1, i2⟩ := split_at (fun x => decide (x.1 < e.1)) l k (fun x hx => decide_eq_true (h1 x hx)) (by
    rcases h2 with h | ⟨x, hx, hn⟩
    · exact .inl h
    · exact .inr ⟨x, hx, decide_eq_false hn⟩)
  unfold insE
  rw [i1, i2]
def insAll (xs : List Ent) : List Ent := xs.foldl insE []
theorem insE_perm (l : List Ent) (e : Ent) : (insE l e).Perm (e :: l) := by
  unfold insE
  refine List.perm_middle.trans ?_
  rw [List.takeWhile_append_dropWhile]
theorem insAll_perm (xs : List Ent) : (insAll xs).Perm xs := by
  have gen : ∀ (xs l : List Ent), (xs.foldl insE l).Perm (xs ++ l) := by
    intro xs
    induction xs with
    | nil => intro l; exact List.Perm.refl _
    | cons x xs ih =>
      intro l
      rw [List.foldl_cons]
      refine (ih _).trans ?_
      refine (List.Perm.append_left xs (insE_perm l x)).trans ?_
      exact List.perm_middle
  have := gen xs []
  rw [List.append_nil] at this
  exact this
theorem swo_lt {a b : List UInt8} (h1 : a < b) (h2 : b < a) : a < a := List.lt_trans h1 h2
theorem not_lt_trans {a b c : List UInt8} (h1 : ¬ b < a) (h2 : ¬ c < b) : ¬ c < a := List.not_lt.2 (List.le_trans (List.not_lt.1 h1) (List.not_lt.1 h2))
theorem insE_srt (l : List Ent) (e : Ent) (h : Srt l) : Srt (insE l e) := by
  unfold Srt insE at *
  induction l with
  | nil => simp
  | cons x l ih =>
    have hx := (List.pairwise_cons.1 h).1
    have hl := (List.pairwise_cons.1 h).2
    by_cases hp : x.1 < e.1
    · have hd : decide (x.1 < e.1) = true := decide_eq_true hp
      simp only [List.takeWhile_cons, List.dropWhile_cons, hd, if_true, List.cons_append]
      refine List.pairwise_cons.2 ⟨?_, ih hl⟩
      intro y hy
      have := (insE_perm l e).mem_iff.1 (show y ∈ insE l e from hy)
      rcases List.mem_cons.1 this with rfl | hy2
      · exact fun hlt => absurd (swo_lt hp hlt) (List.lt_irrefl _)
      · exact hx y hy2
    · have hd : decide (x.1 < e.1) = false := decide_eq_false hp
      simp only [List.takeWhile_cons, List.dropWhile_cons, hd, Bool.false_eq_true, if_false, List.nil_append]
      refine List.pairwise_cons.2 ⟨?_, h⟩
      intro y hy
      rcases List.mem_cons.1 hy with rfl | hy2
      · exact hp
      · exact not_lt_trans hp (hx y hy2)
theorem insAll_srt (xs : List Ent) : Srt (insAll xs) := by
  have gen : ∀ (xs l : List Ent), Srt l → Srt (xs.foldl insE l) := by
    intro xs
    induction xs with
    | nil => intro l h; exact h
    | cons x xs ih => intro l h; exact ih _ (insE_srt l x h)
  exact gen xs [] List.Pairwise.nil
end Go.Proofs.Ytclngmjfhlindaa.Ma
