/- (seval) The disk and the document's, in the machine: what is done; what fits. -/
import Derived.Test.YtclcadpmkkeaeaaDmA
import Derived.Test.YtclcadpmkkeaeaaDmB
set_option linter.unusedSectionVars false
set_option linter.unusedSimpArgs false
set_option linter.unusedVariables false
set_option maxHeartbeats 2000000
set_option maxRecDepth 10000
namespace Go.Vm.Ytclcadpmkkeaeaa
open Go.Proofs
theorem nm_lay {l : List DE} (h : NmE l) {x : Tx} (hx : nameB x = true) (a : Bool) (s : Tx) (how : Nat) : NmE (layL l x a s how) := by
  intro e he
  rcases mem_lay.1 he with ⟨h1, _⟩ | ⟨e2, h1, h2, rfl⟩ | ⟨_, rfl⟩
  · exact h e h1
  · exact h e2 h1
  · exact hx
theorem nm_chg {l : List DE} (h : NmE l) {lim : Int} {c : Ch} (he : codeL nameB l lim c = 0) : NmE (chgL l c) := by
  unfold codeL codeK at he
  have hn : nameB c.n = true := by
    cases hb : nameB c.n
    · rw [if_pos hb] at he; cases he
    · rfl
  obtain ⟨kk, n, t, s, m⟩ := c
  simp only at hn
  rcases kk with _ | _ | _ | _ | kk
  · exact nm_lay h hn _ _ _
  · exact nm_lay h hn _ _ _
  · have ht : nameB t = true := by
      simp only at he
      cases hb : nameB t
      · split at he
        · cases he
        · split at he
          · cases he
          · cases he
      · rfl
    exact nm_lay (nm_lay h ht _ _ _) hn _ _ _
  · exact nm_lay h hn _ _ _
  · exact nm_lay h hn _ _ _
theorem nm_sync {l : List DE} (h : NmE l) : NmE (syncL l) := by
  intro e he
  obtain ⟨e2, h1, rfl⟩ := List.mem_map.1 (List.mem_filter.1 he).1
  exact h e2 h1
theorem fit_nxt {l : List DE} {ch n : Nat} (h : Fit l ch n) (lim : Int) (c : Ch) (hs : c.s.length ≤ 50) : Fit (nxtL l lim c) (nxtC l lim ch c) (n + 1) ∧ (0 ≤ lim → (usedL l : Int) ≤ lim → (usedL (nxtL l lim c) : Int) ≤ lim) := by
  obtain ⟨h1, h2, h3, h4, h5, h6⟩ := h
  unfold nxtL nxtC
  split
  · rename_i he
    obtain ⟨g1, g2⟩ := chg_size h1 h2 he
    have := chg_len l c
    exact ⟨⟨chg_srt h1 c, chg_ok h2 c, nm_chg h3 he, by omega, by omega, by omega⟩, g2⟩
  · exact ⟨⟨h1, h2, h3, by omega, by omega, by omega⟩, fun _ h => h⟩
theorem fit_sync {l : List DE} {ch n : Nat} (h : Fit l ch n) : Fit (syncL l) ch (n + 1) := by
  obtain ⟨h1, h2, h3, h4, h5, h6⟩ := h
  have := len_sync l
  have := used_sync l h2
  exact ⟨srt_sync h1, ok_sync h2, nm_sync h3, by omega, by omega, by omega⟩
/-- The forms of the two in memory. -/
def Forms (lv nv : V) (l : List DE) : Prop :=
  (lv = .osl 6 l.length (rows DE.v l) ∧ nv = .osl 3 (nowL l).length (rows DF.v (nowL l))) ∨ (lv = .osl 6 l.length (rows DE.v l) ∧ ∃ k, nv = .sl k (nowL l).length (rows DF.v (nowL l))) ∨ (lv = .sl .nil 0 [] ∧ l = [] ∧ ∃ k, nv = .sl k (nowL l).length (rows DF.v (nowL l)))
theorem Forms.ow {lv nv : V} {l : List DE} (h : Forms lv nv l) : OwL lv l := by
  rcases h with ⟨h, _⟩ | ⟨h, _⟩ | ⟨h, h2, _⟩
  · exact .inl h
  · exact .inl h
  · exact .inr ⟨h, h2⟩
theorem Forms.nw {lv nv : V} {l : List DE} (h : Forms lv nv l) : NvL nv l := by
  rcases h with ⟨_, h⟩ | ⟨_, h⟩ | ⟨_, _, h⟩
  · exact .inl h
  · exact .inr h
  · exact .inr h
theorem do_ok2 {lv nv : V} {k2 : SK} {l : List DE} (h : Forms lv nv l) (lim : Int) (ch n : Nat) (hf : Fit l ch n) (hn : n ≤ 100) (hlim : -1 ≤ lim ∧ lim ≤ 1000) (a : Act) (hk : 0 ≤ a.k ∧ a.k ≤ 5) (hx : a.n.length ≤ 140737488355328) (ht : a.t.length ≤ 140737488355328) :
    ∃ lv' nv' k2' l' ch', Forms lv' nv' l' ∧ Fit l' ch' (n + 1) ∧ (0 ≤ lim → (usedL l : Int) ≤ lim → (usedL l' : Int) ≤ lim) ∧ sizeF (sureL l') ≤ max (sizeF (sureL l)) (usedL l) ∧ Gf fns 7 [Pv lv nv k2 l lim ch, .agg a.v] = some (.tup [Pv lv' nv' k2' l' lim ch', .bool true], []) := by
  have ho := h.ow
  have hv := h.nw
  have hfit := hf
  obtain ⟨hs, hok, hnm, hlen, hu, hch⟩ := hf
  have hnl := now_len_le l
  have hsl := sure_len_le l
  by_cases h5 : a.k = 5
  · obtain ⟨k, x, t, s, m, f1, f2, f3⟩ := a
    simp only at h5
    subst h5
    have hC := fun k => Sync_ok k k2 (nowL l) (sureL l) lim ch (by omega)
    have e1 : clL (nowL l) = nowL (syncL l) := (now_sync l).symm
    have e2 : sureL (syncL l) = nowL (syncL l) := (sure_sync l).trans (now_sync l).symm
    rw [e1] at hC
    have hD : ∃ lv2, OwL lv2 (syncL l) ∧ Gf fns 8 [.opt (dkv lv lim ch false)] = some (.int .i64 0, [.opt (dkv lv2 lim ch false)]) := by
      rcases ho with rfl | ⟨rfl, rfl⟩
      · exact ⟨_, .inl rfl, DSync_own l lim ch (by omega)⟩
      · exact ⟨.sl .nil 0 [], .inr ⟨rfl, rfl⟩, DSync_nil lim ch⟩
    obtain ⟨lv2, ho2, hD⟩ := hD
    have hr := do_syn ho ho2 hv lim ch (by omega) (by omega) (by omega) x t s m f1 f2 f3 hC hD
    refine ⟨lv2, .sl .ro (nowL (syncL l)).length (rows DF.v (nowL (syncL l))), .ro, syncL l, ch, ?_, fit_sync hfit, fun h1 h2 => by rw [used_sync l hok]; exact h2, by rw [e2, now_sync]; unfold sizeF; rw [List.map_map]; have := used_now hok; unfold sizeF at this; rw [this]; exact Nat.le_max_right _ _, ?_⟩
    · rcases ho2 with h | ⟨h, h2⟩
      · exact .inr (.inl ⟨h, .ro, rfl⟩)
      · exact .inr (.inr ⟨h, h2, .ro, rfl⟩)
    · unfold Pv Act.v
      rw [e2]
      exact hr
  · have hfl := few_len a.s
    have hcs : a.ch.s.length ≤ 50 := by
      unfold Act.ch
      simp only
      split
      · exact hfl
      · simp
    obtain ⟨hfit2, hroom⟩ := fit_nxt hfit lim a.ch hcs
    have hc := change_ok ho lim ch hs (by omega) (by omega) (by omega) hlim a ⟨hk.1, by omega⟩ hx ht
    have hcd := code_now hs hok lim a.ch (nm := nameB)
    have hfs : (fS (fnd DF.n (nowL l) a.n)).length ≤ 1000000 := by
      rw [(face_now hs hok a.n).2]
      have := faceS_le l a.n
      omega
    have hsz := used_now hok
    have hck : a.ch.k ≤ 4 := by unfold Act.ch; simp only; omega
    by_cases he : codeL nameB l lim a.ch = 0
    · have e1 : nxtV lv l lim a.ch = .osl 6 (chgL l a.ch).length (rows DE.v (chgL l a.ch)) := if_pos he
      have e2 : nxtL l lim a.ch = chgL l a.ch := if_pos he
      have e3 : nxtC l lim ch a.ch = ch + 1 := if_pos he
      rw [e2, e3] at hfit2
      rw [e2] at hroom
      rw [e1, e3, he] at hc
      have hC := fun k => Change_yes k k2 (nowL l) (sureL l) lim ch a.ch (srt_now hs) (by omega) hck hlim (by omega) (by omega) hcs hx ht hfs (by unfold codeR; rw [hcd, he])
      rw [← chg_now hs hok he] at hC
      refine ⟨_, .osl 3 (nowL (chgL l a.ch)).length (rows DF.v (nowL (chgL l a.ch))), k2, chgL l a.ch, ch + 1, .inl ⟨rfl, rfl⟩, hfit2, hroom, by rw [chg_sure hs a.ch]; exact Nat.le_max_left _ _, ?_⟩
      unfold Pv
      rw [chg_sure hs a.ch]
      obtain ⟨k, x, t, s, m, f1, f2, f3⟩ := a
      obtain ⟨kd, rfl⟩ : ∃ kd : Nat, k = (kd : Int) := ⟨k.toNat, by simp only at hk; omega⟩
      generalize chgL l (Act.mk (kd : Int) x t s m f1 f2 f3).ch = L at *
      refine do_yes ho hv lim ch (by omega) (by omega) (by omega) kd x t s m f1 f2 f3 (by simp only at hk h5; omega) (fun k => ?_) hc
      have := hC k
      simp only [Act.ch, Ch.v, Int.toNat_natCast] at this
      exact this
    · have e1 : nxtV lv l lim a.ch = lv := if_neg he
      have e2 : nxtL l lim a.ch = l := if_neg he
      have e3 : nxtC l lim ch a.ch = ch := if_neg he
      rw [e2, e3] at hfit2
      rw [e1, e3] at hc
      have hC := fun k => Change_no k k2 (nowL l) (sureL l) lim ch a.ch hck hlim (by omega) (by omega) hcs hx ht hfs (by unfold codeR; rw [hcd]; exact he)
      unfold codeR at hC
      rw [hcd] at hC
      obtain ⟨k, x, t, s, m, f1, f2, f3⟩ := a
      obtain ⟨kd, rfl⟩ : ∃ kd : Nat, k = (kd : Int) := ⟨k.toNat, by simp only at hk; omega⟩
      generalize codeL nameB l lim (Act.mk (kd : Int) x t s m f1 f2 f3).ch = q at *
      simp only [Act.ch, Ch.v, Int.toNat_natCast] at hC
      have hr : ∃ k, Gf fns 7 [.agg [.opt (dkv lv lim ch false), nv, .sl k2 (sureL l).length (rows DF.v (sureL l)), .int .i64 lim, .sl .nil 0 [], .int .i64 (ch : Int), .bool false], .agg [.int .i64 (kd : Int), .str x, .str t, .str s, .int .i64 m, .int .i64 f1, .int .i64 f2, .int .i64 f3]] = some (.tup [.agg [.opt (dkv lv lim ch false), .sl k (nowL l).length (rows DF.v (nowL l)), .sl k2 (sureL l).length (rows DF.v (sureL l)), .int .i64 lim, .sl .nil 0 [], .int .i64 (ch : Int), .bool false], .bool true], []) := by
        by_cases h2 : (kd : Int) < 2
        · exact do_no0 ho hv lim ch (by omega) (by omega) (by omega) kd x t s m f1 f2 f3 q (by simp only at hk h5; omega) h2 hC hc
        · exact do_no1 ho hv lim ch (by omega) (by omega) (by omega) kd x t s m f1 f2 f3 q (by simp only at hk h5; omega) h2 hC hc
      obtain ⟨k, hr⟩ := hr
      refine ⟨lv, .sl k (nowL l).length (rows DF.v (nowL l)), k2, l, ch, ?_, hfit2, fun _ h => h, Nat.le_max_left _ _, hr⟩
      rcases ho with h | ⟨h, h2⟩
      · exact .inr (.inl ⟨h, k, rfl⟩)
      · exact .inr (.inr ⟨h, h2, k, rfl⟩)
theorem do_ok {lv nv : V} {k2 : SK} {l : List DE} (h : Forms lv nv l) (lim : Int) (ch n : Nat) (hf : Fit l ch n) (hn : n ≤ 100) (hlim : -1 ≤ lim ∧ lim ≤ 1000) (a : Act) (hk : 0 ≤ a.k ∧ a.k ≤ 5) (hx : a.n.length ≤ 140737488355328) (ht : a.t.length ≤ 140737488355328) :
    ∃ lv' nv' k2' l' ch', Forms lv' nv' l' ∧ Fit l' ch' (n + 1) ∧ (0 ≤ lim → (usedL l : Int) ≤ lim → (usedL l' : Int) ≤ lim) ∧ Gf fns 7 [Pv lv nv k2 l lim ch, .agg a.v] = some (.tup [Pv lv' nv' k2' l' lim ch', .bool true], []) := by
  obtain ⟨a1, a2, a3, a4, a5, h1, h2, h3, _, h4⟩ := do_ok2 h lim ch n hf hn hlim a hk hx ht (k2 := k2)
  exact ⟨a1, a2, a3, a4, a5, h1, h2, h3, h4⟩
end Go.Vm.Ytclcadpmkkeaeaa
