/-
  The tables of the law's functions, by their numbers.
-/
import Derived.Test.YtjenkjblcpinnaaGreatTa0
import Derived.Test.YtjenkjblcpinnaaGreatTa1
import Derived.Test.YtjenkjblcpinnaaGreatProg
namespace Go.Proofs.YtjenkjblcpinnaaGreat.Ev
open Go
set_option maxRecDepth 1000000
set_option linter.all false
noncomputable def afn3 : AFn := (cFn Tryz.prog Tryz.f3).getD default
noncomputable def afn4 : AFn := (cFn Tryz.prog Tryz.f4).getD default
noncomputable def afn9 : AFn := (cFn Tryz.prog Tryz.f9).getD default
noncomputable def afn24 : AFn := (cFn Tryz.prog Tryz.f24).getD default
noncomputable def afn45 : AFn := (cFn Tryz.prog Tryz.f45).getD default
noncomputable def afn76 : AFn := (cFn Tryz.prog Tryz.f76).getD default
noncomputable def afn23 : AFn := (cFn Tryz.prog Tryz.f23).getD default
noncomputable def afn5 : AFn := (cFn Tryz.prog Tryz.f5).getD default
noncomputable def afn10 : AFn := (cFn Tryz.prog Tryz.f10).getD default
noncomputable def afn12 : AFn := (cFn Tryz.prog Tryz.f12).getD default
noncomputable def afn25 : AFn := (cFn Tryz.prog Tryz.f25).getD default
noncomputable def afn46 : AFn := (cFn Tryz.prog Tryz.f46).getD default
noncomputable def afn77 : AFn := (cFn Tryz.prog Tryz.f77).getD default
noncomputable def afn101 : AFn := (cFn Tryz.prog Tryz.f101).getD default
noncomputable def afn78 : AFn := (cFn Tryz.prog Tryz.f78).getD default
noncomputable def afn79 : AFn := (cFn Tryz.prog Tryz.f79).getD default
noncomputable def afn102 : AFn := (cFn Tryz.prog Tryz.f102).getD default
noncomputable def afn13 : AFn := (cFn Tryz.prog Tryz.f13).getD default
noncomputable def afn6 : AFn := (cFn Tryz.prog Tryz.f6).getD default
noncomputable def afn14 : AFn := (cFn Tryz.prog Tryz.f14).getD default
noncomputable def afn15 : AFn := (cFn Tryz.prog Tryz.f15).getD default
noncomputable def afn32 : AFn := (cFn Tryz.prog Tryz.f32).getD default
noncomputable def afn28 : AFn := (cFn Tryz.prog Tryz.f28).getD default
noncomputable def afn48 : AFn := (cFn Tryz.prog Tryz.f48).getD default
noncomputable def afn40 : AFn := (cFn Tryz.prog Tryz.f40).getD default
noncomputable def afn81 : AFn := (cFn Tryz.prog Tryz.f81).getD default
noncomputable def afn104 : AFn := (cFn Tryz.prog Tryz.f104).getD default
noncomputable def afn98 : AFn := (cFn Tryz.prog Tryz.f98).getD default
noncomputable def afn114 : AFn := (cFn Tryz.prog Tryz.f114).getD default
noncomputable def afn123 : AFn := (cFn Tryz.prog Tryz.f123).getD default
noncomputable def afn135 : AFn := (cFn Tryz.prog Tryz.f135).getD default
noncomputable def afn143 : AFn := (cFn Tryz.prog Tryz.f143).getD default
noncomputable def afn120 : AFn := ⟨3, 3, [], .skip, (some .add64)⟩
noncomputable def afn145 : AFn := (cFn Tryz.prog Tryz.f145).getD default
noncomputable def afn112 : AFn := (cFn Tryz.prog Tryz.f112).getD default
noncomputable def afn118 : AFn := (cFn Tryz.prog Tryz.f118).getD default
noncomputable def afn119 : AFn := (cFn Tryz.prog Tryz.f119).getD default
noncomputable def afn134 : AFn := (cFn Tryz.prog Tryz.f134).getD default
noncomputable def afn144 : AFn := (cFn Tryz.prog Tryz.f144).getD default
noncomputable def afn113 : AFn := (cFn Tryz.prog Tryz.f113).getD default
noncomputable def afn121 : AFn := ⟨3, 3, [], .skip, (some .sub64)⟩
noncomputable def afn122 : AFn := (cFn Tryz.prog Tryz.f122).getD default
noncomputable def afn80 : AFn := (cFn Tryz.prog Tryz.f80).getD default
noncomputable def afn103 : AFn := (cFn Tryz.prog Tryz.f103).getD default
noncomputable def afn99 : AFn := (cFn Tryz.prog Tryz.f99).getD default
noncomputable def afn27 : AFn := (cFn Tryz.prog Tryz.f27).getD default
noncomputable def afn47 : AFn := (cFn Tryz.prog Tryz.f47).getD default
noncomputable def afn74 : AFn := (cFn Tryz.prog Tryz.f74).getD default
noncomputable def afn31 : AFn := (cFn Tryz.prog Tryz.f31).getD default
noncomputable def afn52 : AFn := (cFn Tryz.prog Tryz.f52).getD default
noncomputable def afn85 : AFn := (cFn Tryz.prog Tryz.f85).getD default
noncomputable def afn59 : AFn := (cFn Tryz.prog Tryz.f59).getD default
noncomputable def afn51 : AFn := (cFn Tryz.prog Tryz.f51).getD default
noncomputable def afn84 : AFn := (cFn Tryz.prog Tryz.f84).getD default
noncomputable def afn105 : AFn := (cFn Tryz.prog Tryz.f105).getD default
noncomputable def afn57 : AFn := (cFn Tryz.prog Tryz.f57).getD default
noncomputable def afn60 : AFn := (cFn Tryz.prog Tryz.f60).getD default
noncomputable def afn89 : AFn := (cFn Tryz.prog Tryz.f89).getD default
noncomputable def afn108 : AFn := (cFn Tryz.prog Tryz.f108).getD default
noncomputable def afn116 : AFn := (cFn Tryz.prog Tryz.f116).getD default
noncomputable def afn117 : AFn := (cFn Tryz.prog Tryz.f117).getD default
noncomputable def afn125 : AFn := (cFn Tryz.prog Tryz.f125).getD default
noncomputable def afn126 : AFn := (cFn Tryz.prog Tryz.f126).getD default
noncomputable def afn140 : AFn := (cFn Tryz.prog Tryz.f140).getD default
noncomputable def afn146 : AFn := (cFn Tryz.prog Tryz.f146).getD default
noncomputable def afn141 : AFn := (cFn Tryz.prog Tryz.f141).getD default
noncomputable def afn72 : AFn := (cFn Tryz.prog Tryz.f72).getD default
noncomputable def afn133 : AFn := (cFn Tryz.prog Tryz.f133).getD default
noncomputable def afn36 : AFn := (cFn Tryz.prog Tryz.f36).getD default
noncomputable def afn58 : AFn := (cFn Tryz.prog Tryz.f58).getD default
noncomputable def afn90 : AFn := (cFn Tryz.prog Tryz.f90).getD default
noncomputable def afn91 : AFn := (cFn Tryz.prog Tryz.f91).getD default
noncomputable def afn109 : AFn := (cFn Tryz.prog Tryz.f109).getD default
noncomputable def afn34 : AFn := (cFn Tryz.prog Tryz.f34).getD default
noncomputable def afn55 : AFn := (cFn Tryz.prog Tryz.f55).getD default
noncomputable def afn54 : AFn := (cFn Tryz.prog Tryz.f54).getD default
noncomputable def afn16 : AFn := (cFn Tryz.prog Tryz.f16).getD default
noncomputable def afn35 : AFn := (cFn Tryz.prog Tryz.f35).getD default
noncomputable def afn56 : AFn := (cFn Tryz.prog Tryz.f56).getD default
noncomputable def afn37 : AFn := (cFn Tryz.prog Tryz.f37).getD default
noncomputable def afn62 : AFn := (cFn Tryz.prog Tryz.f62).getD default
noncomputable def afn92 : AFn := (cFn Tryz.prog Tryz.f92).getD default
noncomputable def afn110 : AFn := (cFn Tryz.prog Tryz.f110).getD default
noncomputable def afn61 : AFn := (cFn Tryz.prog Tryz.f61).getD default
noncomputable def afn87 : AFn := (cFn Tryz.prog Tryz.f87).getD default
noncomputable def afn88 : AFn := ⟨3, 3, [], .skip, (some (.insert 1 24 23))⟩
noncomputable def afn17 : AFn := (cFn Tryz.prog Tryz.f17).getD default
noncomputable def afn18 : AFn := (cFn Tryz.prog Tryz.f18).getD default
noncomputable def afn39 : AFn := (cFn Tryz.prog Tryz.f39).getD default
noncomputable def afn38 : AFn := (cFn Tryz.prog Tryz.f38).getD default
noncomputable def afn63 : AFn := (cFn Tryz.prog Tryz.f63).getD default
noncomputable def afn19 : AFn := (cFn Tryz.prog Tryz.f19).getD default
noncomputable def afn20 : AFn := (cFn Tryz.prog Tryz.f20).getD default
noncomputable def afn41 : AFn := (cFn Tryz.prog Tryz.f41).getD default
noncomputable def afn42 : AFn := (cFn Tryz.prog Tryz.f42).getD default
noncomputable def afn43 : AFn := (cFn Tryz.prog Tryz.f43).getD default
noncomputable def afn73 : AFn := (cFn Tryz.prog Tryz.f73).getD default
noncomputable def afn11 : AFn := (cFn Tryz.prog Tryz.f11).getD default
noncomputable def afn29 : AFn := (cFn Tryz.prog Tryz.f29).getD default
noncomputable def afn30 : AFn := (cFn Tryz.prog Tryz.f30).getD default
noncomputable def afn7 : AFn := (cFn Tryz.prog Tryz.f7).getD default
noncomputable def afn8 : AFn := (cFn Tryz.prog Tryz.f8).getD default
noncomputable def afn22 : AFn := (cFn Tryz.prog Tryz.f22).getD default
noncomputable def afn44 : AFn := (cFn Tryz.prog Tryz.f44).getD default
noncomputable def afn75 : AFn := (cFn Tryz.prog Tryz.f75).getD default
noncomputable def afn100 : AFn := (cFn Tryz.prog Tryz.f100).getD default
noncomputable def afn21 : AFn := (cFn Tryz.prog Tryz.f21).getD default
noncomputable def afntab : Q (Q (Q (Q (Option AFn)))) :=
  let qn : Q (Option AFn) := Q.all none
  let qnn := Q.all qn
  let qnnn := Q.all qnn
  ⟨⟨⟨⟨none, none, none, some afn3, some afn4, some afn5, some afn6, some afn7⟩, ⟨some afn8, some afn9, some afn10, some afn11, some afn12, some afn13, some afn14, some afn15⟩, ⟨some afn16, some afn17, some afn18, some afn19, some afn20, some afn21, some afn22, some afn23⟩, ⟨some afn24, some afn25, none, some afn27, some afn28, some afn29, some afn30, some afn31⟩, ⟨some afn32, none, some afn34, some afn35, some afn36, some afn37, some afn38, some afn39⟩, ⟨some afn40, some afn41, some afn42, some afn43, some afn44, some afn45, some afn46, some afn47⟩, ⟨some afn48, none, none, some afn51, some afn52, none, some afn54, some afn55⟩, ⟨some afn56, some afn57, some afn58, some afn59, some afn60, some afn61, some afn62, some afn63⟩⟩, ⟨qn, ⟨some afn72, some afn73, some afn74, some afn75, some afn76, some afn77, some afn78, some afn79⟩, ⟨some afn80, some afn81, none, none, some afn84, some afn85, none, some afn87⟩, ⟨some afn88, some afn89, some afn90, some afn91, some afn92, none, none, none⟩, ⟨none, none, some afn98, some afn99, some afn100, some afn101, some afn102, some afn103⟩, ⟨some afn104, some afn105, none, none, some afn108, some afn109, some afn110, none⟩, ⟨some afn112, some afn113, some afn114, none, some afn116, some afn117, some afn118, some afn119⟩, ⟨some afn120, some afn121, some afn122, some afn123, none, some afn125, some afn126, none⟩⟩, ⟨⟨none, none, none, none, none, some afn133, some afn134, some afn135⟩, ⟨none, none, none, none, some afn140, some afn141, none, some afn143⟩, ⟨some afn144, some afn145, some afn146, none, none, none, none, none⟩, qn, qn, qn, qn, qn⟩, qnn, qnn, qnn, qnn, qnn⟩, qnnn, qnnn, qnnn, qnnn, qnnn, qnnn, qnnn⟩
noncomputable def ffntab : Q (Q (Q (Q (Option FFn)))) :=
  let qn : Q (Option FFn) := Q.all none
  let qnn := Q.all qn
  let qnnn := Q.all qnn
  ⟨⟨⟨⟨none, none, none, some ffn3, some ffn4, some ffn5, some ffn6, some ffn7⟩, ⟨some ffn8, some ffn9, some ffn10, some ffn11, some ffn12, some ffn13, some ffn14, some ffn15⟩, ⟨some ffn16, some ffn17, some ffn18, some ffn19, some ffn20, some ffn21, some ffn22, some ffn23⟩, ⟨some ffn24, some ffn25, none, some ffn27, some ffn28, some ffn29, some ffn30, some ffn31⟩, ⟨some ffn32, none, some ffn34, some ffn35, some ffn36, some ffn37, some ffn38, some ffn39⟩, ⟨some ffn40, some ffn41, some ffn42, some ffn43, some ffn44, some ffn45, some ffn46, some ffn47⟩, ⟨some ffn48, none, none, some ffn51, some ffn52, none, some ffn54, some ffn55⟩, ⟨some ffn56, some ffn57, some ffn58, some ffn59, some ffn60, some ffn61, some ffn62, some ffn63⟩⟩, ⟨qn, ⟨some ffn72, some ffn73, some ffn74, some ffn75, some ffn76, some ffn77, some ffn78, some ffn79⟩, ⟨some ffn80, some ffn81, none, none, some ffn84, some ffn85, none, some ffn87⟩, ⟨none, some ffn89, some ffn90, some ffn91, some ffn92, none, none, none⟩, ⟨none, none, some ffn98, some ffn99, some ffn100, some ffn101, some ffn102, some ffn103⟩, ⟨some ffn104, some ffn105, none, none, some ffn108, some ffn109, some ffn110, none⟩, ⟨some ffn112, some ffn113, some ffn114, none, some ffn116, some ffn117, some ffn118, some ffn119⟩, ⟨none, none, some ffn122, some ffn123, none, some ffn125, some ffn126, none⟩⟩, ⟨⟨none, none, none, none, none, some ffn133, some ffn134, some ffn135⟩, ⟨none, none, none, none, some ffn140, some ffn141, none, some ffn143⟩, ⟨some ffn144, some ffn145, some ffn146, none, none, none, none, none⟩, qn, qn, qn, qn, qn⟩, qnn, qnn, qnn, qnn, qnn⟩, qnnn, qnnn, qnnn, qnnn, qnnn, qnnn, qnnn⟩
end Go.Proofs.YtjenkjblcpinnaaGreat.Ev
