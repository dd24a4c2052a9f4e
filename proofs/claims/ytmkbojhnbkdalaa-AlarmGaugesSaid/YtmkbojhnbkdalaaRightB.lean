/- What basin.Right computes, as a function on plain data. -/
import Derived.Test.YtmkbojhnbkdalaaBasM
import Derived.Test.YtmkbojhnbkdalaaBasG
import Derived.Test.YtmkbojhnbkdalaaBasO
import Derived.Test.YtmkbojhnbkdalaaBasD
import Derived.Test.YtmkbojhnbkdalaaBasF
set_option linter.unusedSimpArgs false
set_option linter.unusedVariables false
namespace Go.Proofs.Ytmkbojhnbkdalaa
open Go.RowKit

def unityI : Int := 1099511627776
def underB (a b : List Pt) : Bool := curveB a && (curveB b && (a.all (fun p => decide (p.y ≤ atD b p.x)) && b.all (fun p => decide (atU a p.x ≤ p.y))))
/-- The cells of a place's rain. -/
def rainOk (cells : Int) (l : List Cel) (k : Nat) : Bool := match l[k]? with
  | some c => wthB c.ix 0 (cells - 1) && (volB c.ar && (match k with
    | 0 => true
    | j + 1 => match l[j]? with
      | some d => decide (d.ix < c.ix)
      | none => true))
  | none => true
def rainB (cells : Int) (l : List Cel) : Bool := (List.range l.length).all (rainOk cells l)
def placeB (b : Bas) (i : Nat) (p : Plc) : Bool :=
  rainB b.cells p.rn.l && (wthB p.kind 0 3 && (wthB p.office 0 2 && (volB p.cap && (volB p.floor && (wthB p.delay 0 240 && (decide (p.st.n = b.ow.n) && (curveB p.lv.l && (fracB p.num p.den true &&
    (!(p.down == (i : Int)) && (reachB b.pl.l p.office p.down && !(p.st.l.any fun n => !volB n)))))))))))
def linkB (b : Bas) (l : Lnk) : Bool :=
  wthB l.frm 0 ((b.pl.n : Int) - 1) && (!(l.frm == l.to) && (wthB l.delay 0 240 && (wthB l.kind 0 5 && (match b.pl.l[l.frm.toNat]? with
    | none => false
    | some p => reachB b.pl.l p.office l.to && (needB l &&
      (if l.kind = 0 then underB l.band.lo.l l.rate.l && (underB l.rate.l l.band.hi.l && (wthB l.pos 0 64 && (wthB l.speed 0 l.pos && (volB l.leak && (fracB l.bnum l.bden true && (decide (l.bden = 0) || decide (0 ≤ l.to)))))))
       else if l.kind = 2 then volB l.num && (wthB l.pos 1 64 && wthB l.speed 0 l.pos)
       else if l.kind = 3 then fracB l.num l.den false && (volB l.prime && wthB l.brk 0 (l.prime - 1))
       else if l.kind = 4 then fracB l.num l.den false && (fracB l.bnum l.bden true && (decide (0 ≤ l.to) && (match b.pl.l[l.to.toNat]? with | some q => decide (q.office = p.office) | none => false)))
       else fracB l.num l.den false && volB l.crest))))))
def hereI (x : Lnk) : Int := if x.kind = 0 then max (max (steepI x.rate.l) (steepI x.band.lo.l)) (steepI x.band.hi.l) else if x.kind = 4 then 2 * slopeI x.num x.den else slopeI x.num x.den
def thereI (x : Lnk) : Int := if x.kind = 4 then 2 * slopeI x.bnum x.bden else slopeI x.bnum x.bden
def bumpI (l : List Int) (i : Nat) (d : Int) : List Int := match l[i]? with
  | some v => l.set i (v + d)
  | none => l
def slopeStep (l : List Int) (x : Lnk) : List Int :=
  let m := bumpI l x.frm.toNat (hereI x)
  if 0 ≤ x.to then bumpI m x.to.toNat (thereI x) else m
def slopesL (b : Bas) : List Int := b.lk.l.foldl slopeStep (b.pl.l.map fun p => slopeI p.num p.den)
def townB (b : Bas) (t : Twn) : Bool := wthB t.place 0 ((b.pl.n : Int) - 1) && (volB t.flood && (wthB t.lead 0 24 && (wthB t.people 0 1073741824 && (volB t.watch && wthB t.quorum 0 128))))
def targetI (b : Bas) (k : Int) : Int := if k = 0 then (b.pl.n : Int) else if k = 1 then b.cells else (b.lk.n : Int)
def gaugeB (b : Bas) (g : Gau) : Bool := wthB g.kind 0 2 && (wthB g.target 0 (targetI b g.kind - 1) && (wthB g.err 0 unityI && wthB g.drift 0 1440))
def roadB (b : Bas) (r : Rod) : Bool := wthB r.frm 0 ((b.tw.n : Int) - 1) && (wthB r.to 0 ((b.tw.n : Int) + (b.sh.n : Int) - 1) && (!(r.frm == r.to) && (wthB r.hours 1 24 && (wthB r.flow 0 1073741824 && (wthB r.byp (-1) ((b.pl.n : Int) - 1) && (volB r.limit && !(r.byp == -1 && !(r.limit == 0))))))))
def shelterB (s : She) : Bool := wthB s.room 0 1073741824
def peopleB (b : Bas) : Bool := !((b.tw.l.any fun t => !townB b t) || ((b.gg.l.any fun g => !gaugeB b g) || (b.rd.l.any fun r => !roadB b r))) && !(b.sh.l.any fun s => !shelterB s)
def sizesB (b : Bas) : Bool :=
  wthB (b.ow.n : Int) 1 16 && (wthB b.cells 0 64 && (wthB (b.pl.n : Int) 1 64 && (decide (b.lk.n ≤ 96) && (decide (b.tw.n ≤ 40) && (decide (b.gg.n ≤ 128) && (decide (b.rd.n ≤ 128) && (decide (b.sh.n ≤ 40) &&
    (decide (b.nm.size ≤ 500) && (!(decide (0 ≤ Lib.idxFunc badText true b.nm)) &&
    (distinctB [] b.ow.l && (distinctB [] (b.tw.l.map (·.nm) ++ b.sh.l.map (·.nm)) && (distinctB [] (b.pl.l.map (·.nm)) && (distinctB [] (b.lk.l.map (·.nm)) && (distinctB [] (b.gg.l.map (·.nm)) && distinctB [] (b.rd.l.map (·.nm))))))))))))))))
/-- The places with their litres: how far the first k are right, with the sum. -/
def placesB (b : Bas) : List Plc → Nat → Int → Bool
  | [], _, _ => true
  | p :: r, i, total => placeB b i p && (fitsB p.st.l.sum && (decide (satI (total + (if fitsB p.st.l.sum then p.st.l.sum else 0)) ≤ maxVolI) && placesB b r (i + 1) (satI (total + (if fitsB p.st.l.sum then p.st.l.sum else 0)))))
def rightB (b : Bas) : Bool :=
  sizesB b && (decide (b.room.n = 3) && (!(b.room.l.any fun n => !volB n) && (wthB b.err 0 unityI && (placesB b b.pl.l 0 0 && (!(b.lk.l.any fun l => !linkB b l) && (!((slopesL b).any fun s => decide (unityI < s)) && peopleB b))))))

end Go.Proofs.Ytmkbojhnbkdalaa
