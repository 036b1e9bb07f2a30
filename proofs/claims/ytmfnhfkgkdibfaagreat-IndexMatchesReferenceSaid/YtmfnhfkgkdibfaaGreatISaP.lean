/- The fixed example, in plain terms. -/
import Derived.Test.YtmfnhfkgkdibfaaGreatILwB
namespace Go.Proofs.YtmfnhfkgkdibfaaGreat

def wRain : Wd := [114, 97, 105, 110]
def wIn : Wd := [105, 110]
def wThe : Wd := [116, 104, 101]
def wCity : Wd := [99, 105, 116, 121]
def wCouncil : Wd := [99, 111, 117, 110, 99, 105, 108]
def saneOps : List Op3 := [(1, 2, [82, 97, 105, 110, 32, 105, 110, 32, 116, 104, 101, 32, 99, 105, 116, 121, 46, 32, 82, 97, 105, 110, 33]), (1, 1, [84, 104, 101, 32, 99, 105, 116, 121, 32, 99, 111, 117, 110, 99, 105, 108]), (1, 9, [120]), (0, 9, [])]
def saneD : List Dc := [(1, [wThe, wCity, wCouncil]), (2, [wRain, wIn, wThe, wCity, wRain])]
set_option maxRecDepth 100000 in
theorem sane_run : runD saneOps = saneD := by decide +kernel
set_option maxRecDepth 100000 in
theorem sane_docs : docsQ saneD [82, 65, 73, 78] = [(2, 2)] := by decide +kernel
set_option maxRecDepth 100000 in
theorem sane_phrase : phraseQ saneD [wThe, wCity] = [(1, 1), (2, 1)] := by decide +kernel
set_option maxRecDepth 100000 in
theorem sane_pref : prefQ saneD [99] = [(1, 2), (2, 1)] := by decide +kernel
def saneT : List (Wd × Nat) := [(wCity, 2), (wThe, 2), (wCouncil, 1), (wIn, 1), (wRain, 1)]
theorem sane_dn : dn saneD wCity = 2 ∧ dn saneD wThe = 2 ∧ dn saneD wCouncil = 1 ∧ dn saneD wIn = 1 ∧ dn saneD wRain = 1 := by decide +kernel
theorem sane_asc : TAsc saneT := by unfold TAsc; decide +kernel
theorem sane_all : termsD saneD [] = saneT := by
  obtain ⟨d1, d2, d3, d4, d5⟩ := sane_dn
  refine terms_unique (termsD_asc _ _) sane_asc fun x => ?_
  rw [mem_termsD, mem_vocab]
  obtain ⟨x1, x2⟩ := x
  simp only [saneD, List.mem_cons, List.not_mem_nil, or_false, exists_eq_or_imp, exists_eq_left, saneT, Prod.mk.injEq]
  constructor
  · rintro ⟨(h | h | h) | (h | h | h | h | h), -, h2⟩ <;> subst h <;> first | (have := h2.trans d1; simp_all) | (have := h2.trans d2; simp_all) | (have := h2.trans d3; simp_all) | (have := h2.trans d4; simp_all) | (have := h2.trans d5; simp_all)
  · rintro (⟨rfl, rfl⟩ | ⟨rfl, rfl⟩ | ⟨rfl, rfl⟩ | ⟨rfl, rfl⟩ | ⟨rfl, rfl⟩)
    · exact ⟨.inl (.inr (.inl rfl)), rfl, d1.symm⟩
    · exact ⟨.inl (.inl rfl), rfl, d2.symm⟩
    · exact ⟨.inl (.inr (.inr rfl)), rfl, d3.symm⟩
    · exact ⟨.inr (.inr (.inl rfl)), rfl, d4.symm⟩
    · exact ⟨.inr (.inl rfl), rfl, d5.symm⟩
theorem sane_terms : termsQ saneD [] 2 = [(wCity, 2), (wThe, 2)] := by
  have : termsQ saneD [] 2 = (termsD saneD []).take 2 := rfl
  rw [this, sane_all]; rfl
end Go.Proofs.YtmfnhfkgkdibfaaGreat
